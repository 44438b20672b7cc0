/- Signatures and bigraphs in memory: how they are read. No program is in sight. -/
import Derived.Test.YtmnnbgciakigfaaDoorAgg
set_option linter.unusedVariables false
namespace Go.Proofs.YtmnnbgciakigfaaDoor
open Go.RowKit

abbrev Ct := ByteArray × Int × Int
def encCt (c : Ct) : List Value := [.string c.1, .int .i64 c.2.1, .int .i64 c.2.2]
def RCt (_ : World) (cs : List Value) (c : Ct) : Prop := cs = encCt c
theorem RCt_keep : KeepR RCt := fun _ _ _ _ h _ => h

/-- A node: its control, its parent, its links. -/
abbrev Nod := Int × Int × List Int
def RNod (w : World) (cs : List Value) (x : Nod) : Prop := ∃ A c, cs = [.int .i64 x.1, .int .i64 x.2.1, .slice A x.2.2.length c] ∧ Cells w A (ints x.2.2)
theorem RNod_keep : KeepR RNod := fun w w' cs x h hb => by
  obtain ⟨A, c, e, hc⟩ := h
  exact ⟨A, c, e, hc.below hb⟩

abbrev Wi := ByteArray × Int
def encWi (x : Wi) : List Value := [.string x.1, .int .i64 x.2]
def RWi (_ : World) (cs : List Value) (x : Wi) : Prop := cs = encWi x
theorem RWi_keep : KeepR RWi := fun _ _ _ _ h _ => h

abbrev strs (ls : List ByteArray) : List Value := ls.map Value.string
theorem getElem?_strs (ls : List ByteArray) (j : Nat) (h : j < ls.length) : (strs ls)[j]? = some (.string (ls.getD j default)) := by
  simp [strs, List.getD, h]
theorem Cells.str {w : World} {A : Option Addr} {ls : List ByteArray} (h : Cells w A (strs ls)) {k : Nat} (hk : k < ls.length) :
    ∃ b o, A = some ⟨b, o, none⟩ ∧ ∀ j, j < ls.length → w.cell? ⟨b, o + j, none⟩ = some (.string (ls.getD j default)) := by
  obtain ⟨b, o, e, hc⟩ := h.at_ (k := k) (by simpa [strs] using hk)
  exact ⟨b, o, e, fun j hj => hc j _ (getElem?_strs ls j hj)⟩

structure Gr where
  roots : Int
  nodes : List Nod
  sites : List Int
  edges : Int
  outer : List ByteArray
  inner : List Wi

/-- The bigraph's value reads as g: nodes, sites, outer names and inner names by their slices. -/
structure RGr (w : World) (nv sv ov iv : Value) (g : Gr) : Prop where
  n : RSl RNod 3 w nv g.nodes
  s : ∃ A c, sv = .slice A g.sites.length c ∧ Cells w A (ints g.sites)
  o : ∃ A c, ov = .slice A g.outer.length c ∧ Cells w A (strs g.outer)
  i : RSl RWi 2 w iv g.inner

/-- How large a signature is that the draws give, and a bigraph. -/
structure SmallS (l : List Ct) : Prop where
  len : l.length ≤ 1000
  name : ∀ c ∈ l, c.1.size ≤ 1000
structure SmallG (g : Gr) : Prop where
  nodes : g.nodes.length ≤ 1000
  links : ∀ x ∈ g.nodes, x.2.2.length ≤ 1000
  sites : g.sites.length ≤ 1000
  outer : g.outer.length ≤ 1000
  onames : ∀ s ∈ g.outer, s.size ≤ 1000
  inner : g.inner.length ≤ 1000
  inames : ∀ x ∈ g.inner, x.1.size ≤ 1000
  edges : -1000 ≤ g.edges ∧ g.edges ≤ 1000
  roots : -1000 ≤ g.roots ∧ g.roots ≤ 1000
  pars : ∀ x ∈ g.nodes, -9223372036854775808 ≤ x.2.1
  sits : ∀ p ∈ g.sites, -9223372036854775808 ≤ p

section
variable {w w' : World} {nv sv ov iv v : Value} {g : Gr}
theorem RGr.below (h : RGr w nv sv ov iv g) (hb : Below w.heap.size w w') : RGr w' nv sv ov iv g := by
  obtain ⟨h1, ⟨A, c, e, h2⟩, ⟨B, d, e', h3⟩, h4⟩ := h
  exact ⟨h1.below RNod_keep hb, ⟨A, c, e, h2.below hb⟩, ⟨B, d, e', h3.below hb⟩, h4.below RWi_keep hb⟩
theorem RGr.form (h : RGr w nv sv ov iv g) : ∃ AN cN AS cS AO cO AI cI, nv = .slice AN g.nodes.length cN ∧ sv = .slice AS g.sites.length cS ∧ ov = .slice AO g.outer.length cO ∧ iv = .slice AI g.inner.length cI := by
  obtain ⟨h1, ⟨A, c, e, h2⟩, ⟨B, d, e', h3⟩, h4⟩ := h
  obtain ⟨AN, cN, e1, _⟩ := h1.form
  obtain ⟨AI, cI, e2, _⟩ := h4.form
  exact ⟨AN, cN, A, c, B, d, AI, cI, e1, e, e', e2⟩

theorem ct_at {l : List Ct} (h : RSl RCt 3 w v l) {k : Nat} (hk : k < l.length) : ∃ b o c, v = .slice (some ⟨b, o, none⟩) l.length c ∧
    w.cell? ⟨b, o + k * 3, none⟩ = some (.string l[k].1) ∧ w.cell? ⟨b, o + k * 3 + 1, none⟩ = some (.int .i64 l[k].2.1) ∧ w.cell? ⟨b, o + k * 3 + 2, none⟩ = some (.int .i64 l[k].2.2) := by
  obtain ⟨b, o, c, cs, ev, hl, hr, hc⟩ := h.at_ (by decide) (List.getElem?_eq_getElem hk)
  subst hr
  refine ⟨b, o, c, ev, ?_, ?_, ?_⟩
  · exact hc 0 _ rfl
  · exact hc 1 _ rfl
  · exact hc 2 _ rfl
theorem nod_at {l : List Nod} (h : RSl RNod 3 w v l) {k : Nat} (hk : k < l.length) : ∃ b o c A d, v = .slice (some ⟨b, o, none⟩) l.length c ∧
    w.cell? ⟨b, o + k * 3, none⟩ = some (.int .i64 l[k].1) ∧ w.cell? ⟨b, o + k * 3 + 1, none⟩ = some (.int .i64 l[k].2.1) ∧ w.cell? ⟨b, o + k * 3 + 2, none⟩ = some (.slice A l[k].2.2.length d) ∧ Cells w A (ints l[k].2.2) := by
  obtain ⟨b, o, c, cs, ev, hl, ⟨A, d, hr, hA⟩, hc⟩ := h.at_ (by decide) (List.getElem?_eq_getElem hk)
  subst hr
  refine ⟨b, o, c, A, d, ev, ?_, ?_, ?_, hA⟩
  · exact hc 0 _ rfl
  · exact hc 1 _ rfl
  · exact hc 2 _ rfl
theorem wi_at {l : List Wi} (h : RSl RWi 2 w v l) {k : Nat} (hk : k < l.length) : ∃ b o c, v = .slice (some ⟨b, o, none⟩) l.length c ∧
    w.cell? ⟨b, o + k * 2, none⟩ = some (.string l[k].1) ∧ w.cell? ⟨b, o + k * 2 + 1, none⟩ = some (.int .i64 l[k].2) := by
  obtain ⟨b, o, c, cs, ev, hl, hr, hc⟩ := h.at_ (by decide) (List.getElem?_eq_getElem hk)
  subst hr
  refine ⟨b, o, c, ev, ?_, ?_⟩
  · exact hc 0 _ rfl
  · exact hc 1 _ rfl
end

end Go.Proofs.YtmnnbgciakigfaaDoor
