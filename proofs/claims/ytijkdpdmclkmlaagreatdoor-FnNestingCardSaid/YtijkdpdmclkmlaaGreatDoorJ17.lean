/- A drawn bigraph that is harmed: what holds of the memory, and what is left behind. -/
import Derived.Test.YtijkdpdmclkmlaaGreatDoorProg
import Derived.Test.YtijkdpdmclkmlaaGreatDoorJ16
set_option linter.unusedSimpArgs false
set_option linter.unusedVariables false
set_option maxRecDepth 100000
set_option maxHeartbeats 16000000
namespace Go.Proofs.YtijkdpdmclkmlaaGreatDoor
open Go.RowKit
def nrows : List Nod → List Value → List (List Value)
 | x :: ns, l :: ls => [.int .i64 x.1, .int .i64 x.2.1, l] :: nrows ns ls
 | _, _ => []
theorem nrows_flat : ∀ (ns : List Nod) (ls : List Value), (nrows ns ls).flatten = ncells ns ls
 | [], _ => rfl
 | _ :: _, [] => rfl
 | x :: ns, l :: ls => by simp [nrows, ncells, nrows_flat ns ls]
theorem nrows_len : ∀ {ns : List Nod} {ls : List Value}, ls.length = ns.length → (nrows ns ls).length = ns.length
 | [], _, _ => rfl
 | _ :: _, [], h => by simp at h
 | x :: ns, l :: ls, h => by simp only [nrows, List.length_cons, nrows_len (ns := ns) (ls := ls) (by simpa using h)]
theorem nrows_three : ∀ {ns : List Nod} {ls : List Value} {cs : List Value}, cs ∈ nrows ns ls → cs.length = 3
 | [], _, _, h => by simp [nrows] at h
 | _ :: _, [], _, h => by simp [nrows] at h
 | x :: ns, l :: ls, cs, h => by
  rcases List.mem_cons.1 h with rfl | h
  ·rfl
  exact nrows_three h
theorem nrows_at : ∀ {ns : List Nod} {ls : List Value} {i : Nat} {cs : List Value} {x : Nod}, (nrows ns ls)[i]? = some cs → ns[i]? = some x → ∃ l, ls[i]? = some l ∧ cs = [.int .i64 x.1, .int .i64 x.2.1, l]
 | [], _, _, _, _, h, _ => by simp [nrows] at h
 | _ :: _, [], _, _, _, h, _ => by simp [nrows] at h
 | y :: ns, m :: ls, 0, cs, x, h1, h2 => by
  simp [nrows] at h1 h2
  subst h2
  exact ⟨m, rfl, h1.symm⟩
 | y :: ns, m :: ls, i + 1, cs, x, h1, h2 => nrows_at (ns := ns) (ls := ls) (i := i) (by simpa [nrows] using h1) (by simpa using h2)
theorem ncells_set1 : ∀ {ns : List Nod} {ls : List Value} {k : Nat} {x : Nod} (a : Int), ls.length = ns.length → ns[k]? = some x → (ncells ns ls).set (k * 3) (.int .i64 a) = ncells (ns.set k (a, x.2)) ls
 | [], _, _, _, _, _, h => by simp at h
 | _ :: _, [], _, _, _, h, _ => by simp at h
 | y :: ns, m :: ls, 0, x, a, _, h => by
  simp at h
  subst h
  rfl
 | y :: ns, m :: ls, k + 1, x, a, hl, h => by
  have := ncells_set1 (ns := ns) (ls := ls) (k := k) (x := x) a (by simpa using hl) (by simpa using h)
  rw [show (k + 1) * 3 = k * 3 + 3 by omega]
  simp only [ncells, List.set_cons_succ, this]
theorem ncells_set2 : ∀ {ns : List Nod} {ls : List Value} {k : Nat} {x : Nod} (a : Int), ls.length = ns.length → ns[k]? = some x → (ncells ns ls).set (k * 3 + 1) (.int .i64 a) = ncells (ns.set k (x.1, a, x.2.2)) ls
 | [], _, _, _, _, _, h => by simp at h
 | _ :: _, [], _, _, _, h, _ => by simp at h
 | y :: ns, m :: ls, 0, x, a, _, h => by
  simp at h
  subst h
  rfl
 | y :: ns, m :: ls, k + 1, x, a, hl, h => by
  have := ncells_set2 (ns := ns) (ls := ls) (k := k) (x := x) a (by simpa using hl) (by simpa using h)
  rw [show (k + 1) * 3 + 1 = k * 3 + 1 + 3 by omega]
  simp only [ncells, List.set_cons_succ, this]
theorem ncells_set3 : ∀ {ns : List Nod} {ls : List Value} {k : Nat} {x : Nod} (v : Value) (l2 : List Int), ls.length = ns.length → ns[k]? = some x → (ncells ns ls).set (k * 3 + 2) v = ncells (ns.set k (x.1, x.2.1, l2)) (ls.set k v)
 | [], _, _, _, _, _, _, h => by simp at h
 | _ :: _, [], _, _, _, _, h, _ => by simp at h
 | y :: ns, m :: ls, 0, x, v, l2, _, h => by
  simp at h
  subst h
  rfl
 | y :: ns, m :: ls, k + 1, x, v, l2, hl, h => by
  have := ncells_set3 (ns := ns) (ls := ls) (k := k) (x := x) v l2 (by simpa using hl) (by simpa using h)
  rw [show (k + 1) * 3 + 2 = k * 3 + 2 + 3 by omega]
  simp only [ncells, List.set_cons_succ, this]

section
variable {W W' : World} {B C : Nat} {d : Bool} {nv : Value} {ns : List Nod} {ls : List Value}
theorem NR.rsl (h : NR W B C d nv ns ls) (hn : ns.length ≤ 1000) : RSl RNod 3 W nv ns := by
 obtain ⟨A, c, rfl, ho⟩ := owns_form h.own
 refine ⟨A, c, nrows ns ls, rfl, by unfold maxLen; omega, nrows_len h.len, fun cs hc => nrows_three hc, ?_, fun i cs x h1 h2 => ?_⟩
 ·rw [nrows_flat]; exact Cells.of_owns ho
 obtain ⟨l, hl, rfl⟩ := nrows_at h1 h2
 obtain ⟨AL, cL, rfl, hL⟩ := owns_form (h.lk i l x hl h2)
 exact ⟨AL, cL, rfl, Cells.of_owns hL⟩
theorem NR.to (h : NR W B C d nv ns ls) : NR W B C false nv ns ls := { h with dis := fun e => by cases e }
theorem NR.put1 {g c k : Nat} {x : Nod} (h : NR W B C d nv ns ls) (hnv : nv = .slice (some ⟨g, 0, none⟩) ns.length c) (hx : ns[k]? = some x) (a : Int) : NR (W.setCell ⟨g, k * 3, none⟩ (.int .i64 a)) B C d nv (ns.set k (a, x.2)) ls := by
 have hK : Kept (fun q => q = g) W (W.setCell ⟨g, k * 3, none⟩ (.int .i64 a)) := (Kept.refl _ W).setCell (S := fun q => q = g) (p := ⟨g, k * 3, none⟩) rfl _
 have ho := h.own
 rw [hnv] at ho
 have hog : nv.ownBlock = some g := by rw [hnv]; rfl
 refine { own := ?_, len := by rw [List.length_set]; exact h.len, lk := fun i l y hl hy => ?_, lt := h.lt, dis := h.dis }
 ·rw [List.length_set, ← ncells_set1 a h.len hx, hnv]
  exact (ho.stored (k * 3) (.int .i64 a)).1
 have hy2 : ∃ y2, ns[i]? = some y2 ∧ y2.2.2 = y.2.2 := by
  rw [List.getElem?_set] at hy
  split at hy
  ·rename_i e
   subst e
   split at hy
   ·simp at hy; subst hy; exact ⟨x, hx, rfl⟩
   simp at hy
  exact ⟨y, hy, rfl⟩
 obtain ⟨y2, h1, h2⟩ := hy2
 have hr := h.lk i l y2 hl h1
 rw [h2] at hr
 exact ownsK hr hK (fun q hq e => by subst e; exact ownsA hr h.own (by decide) q hq hog)
theorem NR.put2 {g c k : Nat} {x : Nod} (h : NR W B C d nv ns ls) (hnv : nv = .slice (some ⟨g, 0, none⟩) ns.length c) (hx : ns[k]? = some x) (a : Int) : NR (W.setCell ⟨g, k * 3 + 1, none⟩ (.int .i64 a)) B C d nv (ns.set k (x.1, a, x.2.2)) ls := by
 have hK : Kept (fun q => q = g) W (W.setCell ⟨g, k * 3 + 1, none⟩ (.int .i64 a)) := (Kept.refl _ W).setCell (S := fun q => q = g) (p := ⟨g, k * 3 + 1, none⟩) rfl _
 have ho := h.own
 rw [hnv] at ho
 have hog : nv.ownBlock = some g := by rw [hnv]; rfl
 refine { own := ?_, len := by rw [List.length_set]; exact h.len, lk := fun i l y hl hy => ?_, lt := h.lt, dis := h.dis }
 ·rw [List.length_set, ← ncells_set2 a h.len hx, hnv]
  exact (ho.stored (k * 3 + 1) (.int .i64 a)).1
 have hy2 : ∃ y2, ns[i]? = some y2 ∧ y2.2.2 = y.2.2 := by
  rw [List.getElem?_set] at hy
  split at hy
  ·rename_i e
   subst e
   split at hy
   ·simp at hy; subst hy; exact ⟨x, hx, rfl⟩
   simp at hy
  exact ⟨y, hy, rfl⟩
 obtain ⟨y2, h1, h2⟩ := hy2
 have hr := h.lk i l y2 hl h1
 rw [h2] at hr
 exact ownsK hr hK (fun q hq e => by subst e; exact ownsA hr h.own (by decide) q hq hog)
/-- A node more, whose links are those of a node that is there. -/
theorem NR.share {v2 : Value} {x : Nod} {l : Value} (h : NR W B C false nv ns ls) (hx : W.ownsRow B 3 1 l x.2.2.length (ints x.2.2)) (hlt : ∀ b, l.ownBlock = some b → b < C) (hk : Kept (fun q => nv.ownBlock = some q) W W') (ho : W'.ownsRow B 88 3 v2 (ns.length + 1) (ncells ns ls ++ [.int .i64 x.1, .int .i64 x.2.1, l])) : NR W' B C false v2 (ns ++ [x]) (ls ++ [l]) := by
 have hlen := h.len
 refine { own := by rw [List.length_append, ncells_app x l h.len]; exact ho, len := by simp [h.len], lk := fun i m y hm hy => ?_, lt := fun i m b hm hb => ?_, dis := fun hd => by cases hd }
 ·rcases Nat.lt_trichotomy i ls.length with hi | hi | hi
  ·rw [List.getElem?_append_left hi] at hm
   rw [List.getElem?_append_left (by omega)] at hy
   have ha := h.lk i m y hm hy
   exact ownsK ha hk (fun g hg => ownsA ha h.own (by decide) g hg)
  ·subst hi
   rw [List.getElem?_append_right (Nat.le_refl _), Nat.sub_self] at hm
   rw [hlen, List.getElem?_append_right (Nat.le_refl _), Nat.sub_self] at hy
   simp at hm hy
   subst hm
   subst hy
   exact ownsK hx hk (fun g hg => ownsA hx h.own (by decide) g hg)
  rw [List.getElem?_eq_none (by simp; omega)] at hm
  cases hm
 rcases Nat.lt_trichotomy i ls.length with hi | hi | hi
 ·rw [List.getElem?_append_left hi] at hm
  exact h.lt i m b hm hb
 ·subst hi
  rw [List.getElem?_append_right (Nat.le_refl _), Nat.sub_self] at hm
  simp at hm
  subst hm
  exact hlt b hb
 rw [List.getElem?_eq_none (by simp; omega)] at hm
 cases hm
end

theorem node_cells {W : World} {B g cc k : Nat} {nv l : Value} {ns : List Nod} {ls : List Value} {x : Nod} (ho : W.ownsRow B 88 3 nv ns.length (ncells ns ls)) (hnv : nv = .slice (some ⟨g, 0, none⟩) ns.length cc) (hx : ns[k]? = some x) (hl : ls[k]? = some l) :
  W.cell? ⟨g, k * 3, none⟩ = some (.int .i64 x.1) ∧ W.cell? ⟨g, k * 3 + 1, none⟩ = some (.int .i64 x.2.1) ∧ W.cell? ⟨g, k * 3 + 2, none⟩ = some l ∧ ∀ j, W.frozen? ⟨g, j, none⟩ = false := by
 obtain ⟨a1, a2, a3⟩ := ncells_at hx hl
 subst hnv
 have hc := fun j u => ho.cells (g := g) rfl j u
 have e : ∀ j, (⟨g, 0, none⟩ : Addr).add j = ⟨g, j, none⟩ := fun j => by simp [Addr.add, eq_comm]
 refine ⟨by rw [← e]; exact hc _ _ a1, by rw [← e]; exact hc _ _ a2, by rw [← e]; exact hc _ _ a3, fun j => ?_⟩
 rcases ho.2 with ⟨h, _⟩ | ⟨g', c', cur, h1, _, h2, _⟩
 ·cases h
 cases h1
 exact frozen_of_row W g j _ _ h2

theorem wi_rsl {w : World} {B : Nat} {e : TypeId} {v : Value} {l : List Wi} (h : w.ownsRow B e 2 v l.length (l.flatMap encWi)) (hn : l.length ≤ 1000) : RSl RWi 2 w v l := by
 obtain ⟨A, c, rfl, h⟩ := owns_form h
 refine ⟨A, c, l.map encWi, rfl, by unfold maxLen; omega, by simp, fun cs hc => ?_, ?_, fun i cs x h1 h2 => ?_⟩
 ·obtain ⟨x, _, rfl⟩ := List.mem_map.1 hc
  rfl
 ·have e : (l.map encWi).flatten = l.flatMap encWi := by rw [List.flatMap_def]
  rw [e]
  exact Cells.of_owns h
 rw [List.getElem?_map, h2] at h1
 simp at h1
 exact h1.symm

/-- It reads as g, and goes on to while nothing at B or above turns. -/
def RK (B : Nat) (w : World) (nv sv ov iv : Value) (g : Gr) : Prop := ∀ W, Kept (fun q => q < B) w W → RGr W nv sv ov iv g
theorem RK.kept {B : Nat} {w W : World} {nv sv ov iv : Value} {g : Gr} (h : RK B w nv sv ov iv g) (hk : Kept (fun q => q < B) w W) : RK B W nv sv ov iv g := fun W' h' => h W' (hk.trans h')
theorem RK.below {B : Nat} {w W : World} {nv sv ov iv : Value} {g : Gr} (h : RK B w nv sv ov iv g) (hk : Below w.heap.size w W) : RK B W nv sv ov iv g := h.kept (Kept.of_below hk _)
theorem RK.now {B : Nat} {w : World} {nv sv ov iv : Value} {g : Gr} (h : RK B w nv sv ov iv g) : RGr w nv sv ov iv g := h w (Kept.refl _ _)
theorem RK.mono {B B' : Nat} {w : World} {nv sv ov iv : Value} {g : Gr} (h : RK B w nv sv ov iv g) (hb : B' ≤ B) : RK B' w nv sv ov iv g := fun W hk => h W (hk.mono fun q hq => by omega)
theorem rk_of {W : World} {B C : Nat} {d : Bool} {nv sv ov iv : Value} {g : Gr} {ls : List Value} (hN : NR W B C d nv g.nodes ls) (hS : W.ownsRow B 3 1 sv g.sites.length (ints g.sites)) (hO : W.ownsRow B 9 1 ov g.outer.length (strs g.outer)) (hI : W.ownsRow B 90 2 iv g.inner.length (g.inner.flatMap encWi)) (hs : SmallG g) : RK B W nv sv ov iv g := fun W' hk => by
 have n1 := hN.kept hk (fun q hq => by have := (hN.own.lt q hq).1; omega) (fun i l q hl hq => by obtain ⟨x, _, hx⟩ := hN.lkown hl; have := (hx.lt q hq).1; omega)
 have s1 := ownsK hS hk (fun q hq => by have := (hS.lt q hq).1; omega)
 have o1 := ownsK hO hk (fun q hq => by have := (hO.lt q hq).1; omega)
 have i1 := ownsK hI hk (fun q hq => by have := (hI.lt q hq).1; omega)
 obtain ⟨AS, cS, rfl, s2⟩ := owns_form s1
 obtain ⟨AO, cO, rfl, o2⟩ := owns_form o1
 exact { n := n1.rsl hs.nodes, s := ⟨AS, cS, rfl, Cells.of_owns s2⟩, o := ⟨AO, cO, rfl, Cells.of_owns o2⟩, i := wi_rsl i1 hs.inner }

/-- Its rows are its own, at B and above. -/
def RowsG (B : Nat) (W : World) (nv sv ov iv : Value) (g : Gr) : Prop := ∃ (C : Nat) (d : Bool) (ls : List Value), NR W B C d nv g.nodes ls ∧ W.ownsRow B 3 1 sv g.sites.length (ints g.sites) ∧ W.ownsRow B 9 1 ov g.outer.length (strs g.outer) ∧ W.ownsRow B 90 2 iv g.inner.length (g.inner.flatMap encWi)
/-- It reads as g from rows of its own, and goes on to while nothing at B or above turns. -/
def RKS (B : Nat) (w : World) (nv sv ov iv : Value) (g : Gr) : Prop := ∀ W, Kept (fun q => q < B) w W → RGr W nv sv ov iv g ∧ RowsG B W nv sv ov iv g
theorem RowsG.mono {B B' : Nat} {W : World} {nv sv ov iv : Value} {g : Gr} (h : RowsG B W nv sv ov iv g) (hb : B' ≤ B) : RowsG B' W nv sv ov iv g := by
 obtain ⟨C, d, ls, hN, hS, hO, hI⟩ := h
 exact ⟨C, d, ls, { hN with own := owns_mono hN.own hb, lk := fun i l x hl hx => owns_mono (hN.lk i l x hl hx) hb }, owns_mono hS hb, owns_mono hO hb, owns_mono hI hb⟩
theorem RKS.rk {B : Nat} {w : World} {nv sv ov iv : Value} {g : Gr} (h : RKS B w nv sv ov iv g) : RK B w nv sv ov iv g := fun W hk => (h W hk).1
theorem RKS.now {B : Nat} {w : World} {nv sv ov iv : Value} {g : Gr} (h : RKS B w nv sv ov iv g) : RGr w nv sv ov iv g := (h w (Kept.refl _ _)).1
theorem RKS.kept {B : Nat} {w W : World} {nv sv ov iv : Value} {g : Gr} (h : RKS B w nv sv ov iv g) (hk : Kept (fun q => q < B) w W) : RKS B W nv sv ov iv g := fun W' h' => h W' (hk.trans h')
theorem RKS.below {B : Nat} {w W : World} {nv sv ov iv : Value} {g : Gr} (h : RKS B w nv sv ov iv g) (hk : Below w.heap.size w W) : RKS B W nv sv ov iv g := h.kept (Kept.of_below hk _)
theorem RKS.mono {B B' : Nat} {w : World} {nv sv ov iv : Value} {g : Gr} (h : RKS B w nv sv ov iv g) (hb : B' ≤ B) : RKS B' w nv sv ov iv g := fun W hk => ⟨(h W (hk.mono fun q hq => by omega)).1, (h W (hk.mono fun q hq => by omega)).2.mono hb⟩

/-- .. nor in block P + 1. -/
def RKP (B P : Nat) (w : World) (nv sv ov iv : Value) (g : Gr) : Prop := ∀ W, Kept (fun q => q < B ∨ q = P + 1) w W → RGr W nv sv ov iv g ∧ RowsG B W nv sv ov iv g
def ZB : Array Value := #[.int .i64 0, .slice none 0 0, .slice none 0 0, .int .i64 0, .slice none 0 0, .slice none 0 0]
theorem rkp_of {W : World} {B C P : Nat} {d : Bool} {nv sv ov iv : Value} {g : Gr} {ls : List Value} (hN : NR W B C d nv g.nodes ls) (hS : W.ownsRow B 3 1 sv g.sites.length (ints g.sites)) (hO : W.ownsRow B 9 1 ov g.outer.length (strs g.outer)) (hI : W.ownsRow B 90 2 iv g.inner.length (g.inner.flatMap encWi)) (hs : SmallG g) (hrb : W.heap[P + 1]? = some (.cells ZB 31)) : RKP B P W nv sv ov iv g := fun W' hk => by
 have n1 := hN.kept hk (fun q hq => fun e => by
  rcases e with e | e
  ·have := (hN.own.lt q hq).1; omega
  ·subst e; exact ownsT hN.own hrb (by decide) hq) (fun i l q hl hq => fun e => by
  obtain ⟨x, _, hx⟩ := hN.lkown hl
  rcases e with e | e
  ·have := (hx.lt q hq).1; omega
  subst e; exact ownsT hx hrb (by decide) hq)
 have s1 := ownsK hS hk (fun q hq e => by
  rcases e with e | e
  ·have := (hS.lt q hq).1; omega
  subst e; exact ownsT hS hrb (by decide) hq)
 have o1 := ownsK hO hk (fun q hq e => by
  rcases e with e | e
  ·have := (hO.lt q hq).1; omega
  subst e; exact ownsT hO hrb (by decide) hq)
 have i1 := ownsK hI hk (fun q hq e => by
  rcases e with e | e
  ·have := (hI.lt q hq).1; omega
  subst e; exact ownsT hI hrb (by decide) hq)
 have hrows : RowsG B W' nv sv ov iv g := ⟨C, d, ls, n1, s1, o1, i1⟩
 obtain ⟨AS, cS, rfl, s2⟩ := owns_form s1
 obtain ⟨AO, cO, rfl, o2⟩ := owns_form o1
 exact ⟨{ n := n1.rsl hs.nodes, s := ⟨AS, cS, rfl, Cells.of_owns s2⟩, o := ⟨AO, cO, rfl, Cells.of_owns o2⟩, i := wi_rsl i1 hs.inner }, hrows⟩

/-- The box P holds a bigraph that is small enough. -/
structure HD (w : World) (p B P : Nat) (A : Option Addr) (bs : List Int) (c K : Nat) (W : World) : Prop where
 k : Kept (fun q => q = p ∨ q = P ∨ B ≤ q) w W
 cur : Cur W p A bs c K
 ex : ∃ nv sv ov iv g, W.heap[P]? = some (.cells #[.int .i64 g.roots, nv, sv, .int .i64 g.edges, ov, iv] 31) ∧ RKP B P W nv sv ov iv g ∧ SmallG g

/-- .. and the box behind it is as it was laid. -/
structure HR (w : World) (p B P : Nat) (A : Option Addr) (bs : List Int) (c K : Nat) (W : World) : Prop where
 h : HD w p B P A bs c K W
 rb : W.heap[P + 1]? = some (.cells ZB 31)
structure GR (w : World) (p B P C : Nat) (A : Option Addr) (bs : List Int) (c : Nat) (d : Bool) (bx : Array Value) (X : BX) (K : Nat) (W : World) : Prop where
 g : GS w p B P C A bs c d bx X K W
 rb : W.heap[P + 1]? = some (.cells ZB 31)

def lenB (P : Nat) (w : World) : Nat := match w.cell? ⟨P, 1, none⟩ with
 | some (.slice _ n _) => n
 | _ => 0
theorem lenB_of {P : Nat} {w : World} {A : Option Addr} {n c : Nat} (h : w.cell? ⟨P, 1, none⟩ = some (.slice A n c)) : lenB P w = n := by rw [lenB, h]

/-- How large it is before it is harmed. -/
structure SX (X : BX) : Prop where
 nl : X.ns.length ≤ 40
 nd : ∀ x ∈ X.ns, -9223372036854775808 ≤ x.2.1 ∧ x.2.2.length ≤ 20
 sl : X.ss.length ≤ 40
 sb : ∀ x ∈ X.ss, -9223372036854775808 ≤ x
 ol : X.os.length ≤ 40
 on : ∀ s ∈ X.os, s.size ≤ 100
 il : X.is.length ≤ 40
 ib : ∀ x ∈ X.is, x.1.size ≤ 100
 r : -100 ≤ X.r ∧ X.r ≤ 100
 e : -100 ≤ X.e ∧ X.e ≤ 100
theorem SX.small {X : BX} (h : SX X) : SmallG X.g :=
  { nodes := Nat.le_trans h.nl (by decide), links := fun x hx => Nat.le_trans (h.nd x hx).2 (by decide), sites := Nat.le_trans h.sl (by decide), outer := Nat.le_trans h.ol (by decide), onames := fun s hs => Nat.le_trans (h.on s hs) (by decide)
    inner := Nat.le_trans h.il (by decide), inames := fun x hx => Nat.le_trans (h.ib x hx) (by decide), edges := ⟨by have := h.e; show (-1000 : Int) ≤ X.e; omega, by have := h.e; show X.e ≤ 1000; omega⟩, roots := ⟨by have := h.r; show (-1000 : Int) ≤ X.r; omega, by have := h.r; show X.r ≤ 1000; omega⟩
    pars := fun x hx => (h.nd x hx).1, sits := h.sb }

section
variable {w W W' : World} {p B P C c K K' : Nat} {A : Option Addr} {bs : List Int} {d : Bool} {bx : Array Value} {X : BX}
theorem GS.hd (h : GS w p B P C A bs c d X.cells X K W) (hBC : B ≤ C) (hs : SmallG X.g) (hk : K ≤ K') (hrb : W.heap[P + 1]? = some (.cells ZB 31)) : HD w p B P A bs c K' W :=
  { k := h.k, cur := h.cur.mono hk, ex := ⟨X.nv, X.sv, X.ov, X.iv, X.g, h.box, rkp_of h.N (owns_mono h.S hBC) h.O h.I hs hrb, hs⟩ }
theorem GS.put1 {g cc k : Nat} {x : Nod} (h : GS w p B P C A bs c d X.cells X K W) (hpB : p < B) (hnv : X.nv = .slice (some ⟨g, 0, none⟩) X.ns.length cc) (hx : X.ns[k]? = some x) (a : Int) : GS w p B P C A bs c d X.cells { X with ns := X.ns.set k (a, x.2) } K (W.setCell ⟨g, k * 3, none⟩ (.int .i64 a)) := by
  have hK : Kept (fun q => q = g) W (W.setCell ⟨g, k * 3, none⟩ (.int .i64 a)) := (Kept.refl _ W).setCell (S := fun q => q = g) (p := ⟨g, k * 3, none⟩) rfl _
  have hog : X.nv.ownBlock = some g := by rw [hnv]; rfl
  have hBg := (h.N.own.lt g hog).1
  exact { k := h.k.trans (hK.mono fun b hb => .inr (.inr (by omega))), cur := h.cur.kept hK (fun q hq => by omega), box := (hK.block P (Array.getElem?_eq_some_iff.1 h.box).1 (fun e => ownsT h.N.own h.box (by decide) (by rw [e]; exact hog))).trans h.box
          N := h.N.put1 hnv hx a, S := ownsK h.S hK (fun q hq e => by subst e; exact ownsA h.S h.N.own (by decide) q hq hog), O := ownsK h.O hK (fun q hq e => by subst e; exact ownsA h.O h.N.own (by decide) q hq hog), I := ownsK h.I hK (fun q hq e => by subst e; exact ownsA h.I h.N.own (by decide) q hq hog) }
theorem GS.put2 {g cc k : Nat} {x : Nod} (h : GS w p B P C A bs c d X.cells X K W) (hpB : p < B) (hnv : X.nv = .slice (some ⟨g, 0, none⟩) X.ns.length cc) (hx : X.ns[k]? = some x) (a : Int) : GS w p B P C A bs c d X.cells { X with ns := X.ns.set k (x.1, a, x.2.2) } K (W.setCell ⟨g, k * 3 + 1, none⟩ (.int .i64 a)) := by
  have hK : Kept (fun q => q = g) W (W.setCell ⟨g, k * 3 + 1, none⟩ (.int .i64 a)) := (Kept.refl _ W).setCell (S := fun q => q = g) (p := ⟨g, k * 3 + 1, none⟩) rfl _
  have hog : X.nv.ownBlock = some g := by rw [hnv]; rfl
  have hBg := (h.N.own.lt g hog).1
  exact { k := h.k.trans (hK.mono fun b hb => .inr (.inr (by omega))), cur := h.cur.kept hK (fun q hq => by omega), box := (hK.block P (Array.getElem?_eq_some_iff.1 h.box).1 (fun e => ownsT h.N.own h.box (by decide) (by rw [e]; exact hog))).trans h.box
          N := h.N.put2 hnv hx a, S := ownsK h.S hK (fun q hq e => by subst e; exact ownsA h.S h.N.own (by decide) q hq hog), O := ownsK h.O hK (fun q hq e => by subst e; exact ownsA h.O h.N.own (by decide) q hq hog), I := ownsK h.I hK (fun q hq e => by subst e; exact ownsA h.I h.N.own (by decide) q hq hog) }
/-- A node more that shares its links. -/
theorem GS.appD {v : Value} {x : Nod} {l : Value} {j : Nat} (h : GS w p B P C A bs c false bx X K W) (hpB : p < B) (hl : X.ls[j]? = some l) (hx : W.ownsRow B 3 1 l x.2.2.length (ints x.2.2)) (ho : W'.ownsRow B 88 3 v (X.ns.length + 1) (ncells X.ns X.ls ++ [.int .i64 x.1, .int .i64 x.2.1, l])) (hk : Kept (fun q => X.nv.ownBlock = some q) W W') : GS w p B P C A bs c false bx { X with nv := v, ns := X.ns ++ [x], ls := X.ls ++ [l] } K W' :=
  { k := h.k.trans (hk.mono fun b hb => .inr (.inr (h.N.own.lt b hb).1)), cur := h.cur.kept hk (fun q hq => by have := (h.N.own.lt q hq).1; omega), box := (hk.block P (Array.getElem?_eq_some_iff.1 h.box).1 (fun e => ownsT h.N.own h.box (by decide) e)).trans h.box
    N := h.N.share hx (fun b hb => h.N.lt j l b hl hb) hk ho
    S := ownsK h.S hk (fun g hg => ownsA h.S h.N.own (by decide) g hg)
    O := ownsK h.O hk (fun g hg => ownsA h.O h.N.own (by decide) g hg), I := ownsK h.I hk (fun g hg => ownsA h.I h.N.own (by decide) g hg) }

/-- The links of node k have grown (the row v), and are not stored yet. -/
structure GA (w : World) (p B P C : Nat) (A : Option Addr) (bs : List Int) (c : Nat) (X : BX) (K kk : Nat) (v : Value) (l2 : List Int) (W : World) : Prop where
 k : Kept (fun q => q = p ∨ q = P ∨ B ≤ q) w W
 cur : Cur W p A bs c K
 box : W.heap[P]? = some (.cells X.cells 31)
 own : W.ownsRow B 88 3 X.nv X.ns.length (ncells X.ns X.ls)
 lk : ∀ (i : Nat) l x, i ≠ kk → X.ls[i]? = some l → X.ns[i]? = some x → W.ownsRow B 3 1 l x.2.2.length (ints x.2.2)
 v : W.ownsRow B 3 1 v l2.length (ints l2)
 S : W.ownsRow B 3 1 X.sv X.ss.length (ints X.ss)
 O : W.ownsRow B 9 1 X.ov X.os.length (strs X.os)
 I : W.ownsRow B 90 2 X.iv X.is.length (X.is.flatMap encWi)
 len : X.ls.length = X.ns.length
theorem GS.appK {v l : Value} {x : Nod} {k : Nat} {y : Int} (h : GS w p B P C A bs c true X.cells X K W) (hpB : p < B) (hBC : B ≤ C) (hl : X.ls[k]? = some l) (hx : X.ns[k]? = some x) (ho : W'.ownsRow B 3 1 v (x.2.2.length + 1) (ints x.2.2 ++ [.int .i64 y])) (hk : Kept (fun q => l.ownBlock = some q) W W') : GA w p B P C A bs c X K k v (x.2.2 ++ [y]) W' := by
  have hr := h.N.lk k l x hl hx
  refine { k := h.k.trans (hk.mono fun b hb => .inr (.inr (hr.lt b hb).1)), cur := h.cur.kept hk (fun q hq => by have := (hr.lt q hq).1; omega), box := (hk.block P (Array.getElem?_eq_some_iff.1 h.box).1 (fun e => ownsT hr h.box (by decide) e)).trans h.box
           own := ownsK h.N.own hk (fun g hg e => ownsA h.N.own hr (by decide) g hg e), lk := fun i m z hi hm hz => ?_, v := ?_, S := owns_mono (ownsK h.S hk (fun g hg e => ?_)) hBC, O := ownsK h.O hk (fun g hg e => ownsA h.O hr (by decide) g hg e), I := ownsK h.I hk (fun g hg e => ownsA h.I hr (by decide) g hg e), len := h.N.len }
  · have hz2 := h.N.lk i m z hm hz
    refine ownsK hz2 hk (fun g hg e => ?_)
    rcases Nat.lt_or_gt_of_ne hi with hi | hi
    · exact h.N.dis rfl i k m l g hi hm hl hg e
    exact h.N.dis rfl k i l m g hi hl hm e hg
  · rw [List.length_append, show ints (x.2.2 ++ [y]) = ints x.2.2 ++ [.int .i64 y] from by simp [ints]]
    exact ho
  have h1 := (h.S.lt g hg).1
  have h2 := h.N.lt k l g hl e
  omega
theorem GA.hd {v : Value} {x : Nod} {k g cc : Nat} {l2 : List Int} (h : GA w p B P C A bs c X K k v l2 W) (hpB : p < B) (hnv : X.nv = .slice (some ⟨g, 0, none⟩) X.ns.length cc) (hx : X.ns[k]? = some x) (hs : SmallG { X.g with nodes := X.ns.set k (x.1, x.2.1, l2) }) (hrb : W.heap[P + 1]? = some (.cells ZB 31)) : HD w p B P A bs c K (W.setCell ⟨g, k * 3 + 2, none⟩ v) := by
  have hK : Kept (fun q => q = g) W (W.setCell ⟨g, k * 3 + 2, none⟩ v) := (Kept.refl _ W).setCell (S := fun q => q = g) (p := ⟨g, k * 3 + 2, none⟩) rfl _
  have hog : X.nv.ownBlock = some g := by rw [hnv]; rfl
  have hBg := (h.own.lt g hog).1
  have ho := h.own
  rw [hnv] at ho
  have hkl : k < X.ls.length := by rw [h.len]; exact (List.getElem?_eq_some_iff.1 hx).1
  have hN : NR (W.setCell ⟨g, k * 3 + 2, none⟩ v) B (W.setCell ⟨g, k * 3 + 2, none⟩ v).heap.size false X.nv (X.ns.set k (x.1, x.2.1, l2)) (X.ls.set k v) := by
    have hlk : ∀ (i : Nat) l y, (X.ls.set k v)[i]? = some l → (X.ns.set k (x.1, x.2.1, l2))[i]? = some y → (W.setCell ⟨g, k * 3 + 2, none⟩ v).ownsRow B 3 1 l y.2.2.length (ints y.2.2) := fun i l y hl hy => by
      by_cases hi : k = i
      · subst hi
        rw [List.getElem?_set_self (by omega)] at hl
        rw [List.getElem?_set_self (by rw [← h.len]; omega)] at hy
        simp at hl hy
        subst hl
        subst hy
        exact ownsK h.v hK (fun q hq e => by subst e; exact ownsA h.v h.own (by decide) q hq hog)
      rw [List.getElem?_set_ne hi] at hl hy
      have hr := h.lk i l y (fun e => hi e.symm) hl hy
      exact ownsK hr hK (fun q hq e => by subst e; exact ownsA hr h.own (by decide) q hq hog)
    refine { own := ?_, len := by rw [List.length_set, List.length_set]; exact h.len, lk := hlk, lt := fun i l b hl hb => ?_, dis := fun e => by cases e }
    · rw [List.length_set, ← ncells_set3 v l2 h.len hx, hnv]
      exact (ho.stored (k * 3 + 2) v).1
    have hi := (List.getElem?_eq_some_iff.1 hl).1
    have hi2 : i < (X.ns.set k (x.1, x.2.1, l2)).length := by
      rw [List.length_set] at hi ⊢
      rw [← h.len]; exact hi
    exact ((hlk i l _ hl (List.getElem?_eq_getElem hi2)).lt b hb).2
  exact { k := h.k.trans (hK.mono fun b hb => .inr (.inr (by omega))), cur := h.cur.kept hK (fun q hq => by omega)
          ex := ⟨X.nv, X.sv, X.ov, X.iv, { X.g with nodes := X.ns.set k (x.1, x.2.1, l2) }, (hK.block P (Array.getElem?_eq_some_iff.1 h.box).1 (fun e => ownsT h.own h.box (by decide) (by rw [e]; exact hog))).trans h.box,
            rkp_of (g := { X.g with nodes := X.ns.set k (x.1, x.2.1, l2) }) hN (ownsK h.S hK (fun q hq e => by subst e; exact ownsA h.S h.own (by decide) q hq hog)) (ownsK h.O hK (fun q hq e => by subst e; exact ownsA h.O h.own (by decide) q hq hog)) (ownsK h.I hK (fun q hq e => by subst e; exact ownsA h.I h.own (by decide) q hq hog)) hs ((hK.block _ (Array.getElem?_eq_some_iff.1 hrb).1 (fun e => ownsT h.own hrb (by decide) (by rw [hnv, e]; rfl))).trans hrb), hs⟩ }
theorem GR.mono (h : GR w p B P C A bs c d bx X K W) (hk : K ≤ K') : GR w p B P C A bs c d bx X K' W := ⟨h.g.mono hk, h.rb⟩
theorem GR.lay (h : GR w p B P C A bs c d bx X K W) (hb : Below W.heap.size W W') : GR w p B P C A bs c d bx X K W' := ⟨h.g.lay hb, (hb.block _ (Array.getElem?_eq_some_iff.1 h.rb).1).trans h.rb⟩
theorem GR.alloc (h : GR w p B P C A bs c d bx X K W) (o : Obj) : GR w p B P C A bs c d bx X K (W.alloc o) := h.lay ((Below.refl _ _).alloc (Nat.le_refl _) o)
theorem GR.drew (h : GR w p B P C A bs c d bx X K W) : GR w p B P C A bs c d bx X K W.drew := h.lay ((Below.refl _ _).drew)
theorem GR.draw (h : GR w p B P C A bs c d bx X K W) (hpB : p < B) (hBC : B ≤ C) (hpP : p < P) (hk : Kept (fun q => q = p) W W') (hC : Cur W' p A bs c K') : GR w p B P C A bs c d bx X K' W' :=
 ⟨h.g.draw hpB hBC hpP hk hC, (hk.block _ (Array.getElem?_eq_some_iff.1 h.rb).1 (by omega)).trans h.rb⟩
theorem GR.put (h : GR w p B P C A bs c d bx X K W) (hpB : p < B) (hpP : p < P) (f : Nat) (u : Value) : GR w p B P C A bs c d (bx.setIfInBounds f u) X K (W.setCell ⟨P, f, none⟩ u) := by
 have hK : Kept (fun q => q = P) W (W.setCell ⟨P, f, none⟩ u) := (Kept.refl _ W).setCell (S := fun q => q = P) (p := ⟨P, f, none⟩) rfl _
 exact ⟨h.g.put hpB hpP f u, (hK.block _ (Array.getElem?_eq_some_iff.1 h.rb).1 (by omega)).trans h.rb⟩
theorem GR.appO {v : Value} {s : ByteArray} (h : GR w p B P C A bs c d bx X K W) (hpB : p < B) (ho : W'.ownsRow B 9 1 v (X.os.length + 1) (strs X.os ++ [.string s])) (hk : Kept (fun q => X.ov.ownBlock = some q) W W') : GR w p B P C A bs c d bx { X with ov := v, os := X.os ++ [s] } K W' :=
 ⟨h.g.appO hpB ho hk, (hk.block _ (Array.getElem?_eq_some_iff.1 h.rb).1 (fun e => ownsT h.g.O h.rb (by decide) e)).trans h.rb⟩
theorem GR.appI {v : Value} {x : Wi} (h : GR w p B P C A bs c d bx X K W) (hpB : p < B) (ho : W'.ownsRow B 90 2 v (X.is.length + 1) (X.is.flatMap encWi ++ [.string x.1, .int .i64 x.2])) (hk : Kept (fun q => X.iv.ownBlock = some q) W W') : GR w p B P C A bs c d bx { X with iv := v, is := X.is ++ [x] } K W' :=
 ⟨h.g.appI hpB ho hk, (hk.block _ (Array.getElem?_eq_some_iff.1 h.rb).1 (fun e => ownsT h.g.I h.rb (by decide) e)).trans h.rb⟩
theorem GR.appS {v : Value} {x : Int} (h : GR w p B P C A bs c d bx X K W) (hpB : p < B) (hBC : B ≤ C) (ho : W'.ownsRow C 3 1 v (X.ss.length + 1) (ints X.ss ++ [.int .i64 x])) (hk : Kept (fun q => X.sv.ownBlock = some q) W W') : GR w p B P C A bs c d bx { X with sv := v, ss := X.ss ++ [x] } K W' :=
 ⟨h.g.appS hpB hBC ho hk, (hk.block _ (Array.getElem?_eq_some_iff.1 h.rb).1 (fun e => ownsT h.g.S h.rb (by decide) e)).trans h.rb⟩
theorem GR.appD {v : Value} {x : Nod} {l : Value} {j : Nat} (h : GR w p B P C A bs c false bx X K W) (hpB : p < B) (hl : X.ls[j]? = some l) (hx : W.ownsRow B 3 1 l x.2.2.length (ints x.2.2)) (ho : W'.ownsRow B 88 3 v (X.ns.length + 1) (ncells X.ns X.ls ++ [.int .i64 x.1, .int .i64 x.2.1, l])) (hk : Kept (fun q => X.nv.ownBlock = some q) W W') : GR w p B P C A bs c false bx { X with nv := v, ns := X.ns ++ [x], ls := X.ls ++ [l] } K W' :=
 ⟨h.g.appD hpB hl hx ho hk, (hk.block _ (Array.getElem?_eq_some_iff.1 h.rb).1 (fun e => ownsT h.g.N.own h.rb (by decide) e)).trans h.rb⟩
theorem GR.hd (h : GR w p B P C A bs c d X.cells X K W) (hBC : B ≤ C) (hs : SmallG X.g) (hk : K ≤ K') : HR w p B P A bs c K' W := ⟨h.g.hd hBC hs hk h.rb, h.rb⟩
theorem GR.put1 {g cc k : Nat} {x : Nod} (h : GR w p B P C A bs c d X.cells X K W) (hpB : p < B) (hnv : X.nv = .slice (some ⟨g, 0, none⟩) X.ns.length cc) (hx : X.ns[k]? = some x) (a : Int) : GR w p B P C A bs c d X.cells { X with ns := X.ns.set k (a, x.2) } K (W.setCell ⟨g, k * 3, none⟩ (.int .i64 a)) := by
 have hK : Kept (fun q => q = g) W (W.setCell ⟨g, k * 3, none⟩ (.int .i64 a)) := (Kept.refl _ W).setCell (S := fun q => q = g) (p := ⟨g, k * 3, none⟩) rfl _
 exact ⟨h.g.put1 hpB hnv hx a, (hK.block _ (Array.getElem?_eq_some_iff.1 h.rb).1 (fun e => ownsT h.g.N.own h.rb (by decide) (by rw [hnv, e]; rfl))).trans h.rb⟩
theorem GR.put2 {g cc k : Nat} {x : Nod} (h : GR w p B P C A bs c d X.cells X K W) (hpB : p < B) (hnv : X.nv = .slice (some ⟨g, 0, none⟩) X.ns.length cc) (hx : X.ns[k]? = some x) (a : Int) : GR w p B P C A bs c d X.cells { X with ns := X.ns.set k (x.1, a, x.2.2) } K (W.setCell ⟨g, k * 3 + 1, none⟩ (.int .i64 a)) := by
 have hK : Kept (fun q => q = g) W (W.setCell ⟨g, k * 3 + 1, none⟩ (.int .i64 a)) := (Kept.refl _ W).setCell (S := fun q => q = g) (p := ⟨g, k * 3 + 1, none⟩) rfl _
 exact ⟨h.g.put2 hpB hnv hx a, (hK.block _ (Array.getElem?_eq_some_iff.1 h.rb).1 (fun e => ownsT h.g.N.own h.rb (by decide) (by rw [hnv, e]; rfl))).trans h.rb⟩
structure GB (w : World) (p B P C : Nat) (A : Option Addr) (bs : List Int) (c : Nat) (X : BX) (K kk : Nat) (v : Value) (l2 : List Int) (W : World) : Prop where
 g : GA w p B P C A bs c X K kk v l2 W
 rb : W.heap[P + 1]? = some (.cells ZB 31)
theorem GR.appK {v l : Value} {x : Nod} {k : Nat} {y : Int} (h : GR w p B P C A bs c true X.cells X K W) (hpB : p < B) (hBC : B ≤ C) (hl : X.ls[k]? = some l) (hx : X.ns[k]? = some x) (ho : W'.ownsRow B 3 1 v (x.2.2.length + 1) (ints x.2.2 ++ [.int .i64 y])) (hk : Kept (fun q => l.ownBlock = some q) W W') : GB w p B P C A bs c X K k v (x.2.2 ++ [y]) W' :=
 ⟨h.g.appK hpB hBC hl hx ho hk, (hk.block _ (Array.getElem?_eq_some_iff.1 h.rb).1 (fun e => ownsT (h.g.N.lk k l x hl hx) h.rb (by decide) e)).trans h.rb⟩
theorem GB.hd {v : Value} {x : Nod} {k g cc : Nat} {l2 : List Int} (h : GB w p B P C A bs c X K k v l2 W) (hpB : p < B) (hnv : X.nv = .slice (some ⟨g, 0, none⟩) X.ns.length cc) (hx : X.ns[k]? = some x) (hs : SmallG { X.g with nodes := X.ns.set k (x.1, x.2.1, l2) }) (hk : K ≤ K') : HR w p B P A bs c K' (W.setCell ⟨g, k * 3 + 2, none⟩ v) := by
 have hK : Kept (fun q => q = g) W (W.setCell ⟨g, k * 3 + 2, none⟩ v) := (Kept.refl _ W).setCell (S := fun q => q = g) (p := ⟨g, k * 3 + 2, none⟩) rfl _
 have h1 := h.g.hd hpB hnv hx hs h.rb
 exact ⟨{ h1 with cur := h1.cur.mono hk }, (hK.block _ (Array.getElem?_eq_some_iff.1 h.rb).1 (fun e => ownsT h.g.own h.rb (by decide) (by rw [hnv, e]; rfl))).trans h.rb⟩

/-- One more of each leaves it small. -/
theorem SX.r' {X : BX} (h : SX X) {r : Int} (hr : -100 ≤ r ∧ r ≤ 100) : SmallG (BX.g { X with r := r }) := SX.small (X := { X with r := r }) { h with r := hr }
theorem SX.e' {X : BX} (h : SX X) {r : Int} (hr : -100 ≤ r ∧ r ≤ 100) : SmallG (BX.g { X with e := r }) := SX.small (X := { X with e := r }) { h with e := hr }
theorem SX.o' {X : BX} (h : SX X) {v : Value} {s : ByteArray} (hr : s.size ≤ 100) : SmallG (BX.g { X with ov := v, os := X.os ++ [s] }) :=
  { h.small with
    outer := by show (X.os ++ [s]).length ≤ 1000; rw [List.length_append]; have := h.ol; simp; omega
    onames := fun y hy => by
      rcases List.mem_append.1 hy with h' | h'
      · exact h.small.onames y h'
      simp at h'; subst h'; omega }
theorem SX.s' {X : BX} (h : SX X) {v : Value} {s : Int} (hr : -9223372036854775808 ≤ s) : SmallG (BX.g { X with sv := v, ss := X.ss ++ [s] }) :=
  { h.small with
    sites := by show (X.ss ++ [s]).length ≤ 1000; rw [List.length_append]; have := h.sl; simp; omega
    sits := fun y hy => by
      rcases List.mem_append.1 hy with h' | h'
      · exact h.sb y h'
      simp at h'; subst h'; exact hr }
theorem SX.i' {X : BX} (h : SX X) {v : Value} {s : Wi} (hr : s.1.size ≤ 100) : SmallG (BX.g { X with iv := v, is := X.is ++ [s] }) :=
  { h.small with
    inner := by show (X.is ++ [s]).length ≤ 1000; rw [List.length_append]; have := h.il; simp; omega
    inames := fun y hy => by
      rcases List.mem_append.1 hy with h' | h'
      · exact h.small.inames y h'
      simp at h'; subst h'; omega }
theorem SX.n' {X : BX} (h : SX X) {k : Nat} {x : Nod} (hp : -9223372036854775808 ≤ x.2.1) (hl : x.2.2.length ≤ 1000) : SmallG { X.g with nodes := X.ns.set k x } :=
  { h.small with
    nodes := by show (X.ns.set k x).length ≤ 1000; rw [List.length_set]; exact h.small.nodes
    links := fun y hy => by
      rcases List.mem_or_eq_of_mem_set hy with h' | h'
      · exact h.small.links y h'
      subst h'; exact hl
    pars := fun y hy => by
      rcases List.mem_or_eq_of_mem_set hy with h' | h'
      · exact h.small.pars y h'
      subst h'; exact hp }
end

end Go.Proofs.YtijkdpdmclkmlaaGreatDoor
