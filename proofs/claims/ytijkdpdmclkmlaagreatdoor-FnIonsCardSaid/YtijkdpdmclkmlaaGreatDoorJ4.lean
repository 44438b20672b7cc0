/- What waits for what in a region: an operation that has not come up keeps back each one that waits for it; at the end all have come up. No program is in sight. Slices whose elements take several cells: how they are read. No program is in sight. Signatures and bigraphs in memory: how they are read. No program is in sight. The walks of the two functions that find the end of a formula: program and reference. Conditions: the slice's cells are readable. DERIVED: THE SHELF's CONTRACTS AT THIS DUMP, IN PLAIN WORDS (tools/lay-plain.mjs out of 'YtijkdpdmclkmlaaGreatDoorShelfA.lean', which tools/lay-shelf.mjs wrote): THE SAME DECLARATIONS UNDER THE SAME NAMES: 'import', 'namespace', 'open', 'def', 'theorem' AND NOTHING ELSE: no command of the shelf's: FOR A HAND-IN. Each laying: the table of numbers ('.._ren') and one theorem, a field a fact of the dump's own or the kernel's comparison; each contract: ONE APPLICATION. -/
import Derived.Test.YtijkdpdmclkmlaaGreatDoorJ3
import Derived.Test.YtijkdpdmclkmlaaGreatDoorJ0
import Derived.Test.YtijkdpdmclkmlaaGreatDoorProg
import Derived.WalkKit
import Derived.WalkSpells
import Derived.WalkLawsBesides
import Derived.Lib.Hide
import Derived.BigQuiet
import Derived.Deep.QuietTactic
import Derived.Ground.NamesProg
import Derived.Shelf.Strings.SlTrimAscii
set_option linter.unusedSimpArgs false
set_option linter.unusedVariables false
set_option maxRecDepth 100000
set_option maxHeartbeats 16000000
namespace Go.Proofs.YtijkdpdmclkmlaaGreatDoor
open Go.RowKit
theorem early_on {ops : Array Oper} (h : earlyB ops = true) (k : Nat) (o : Oper) (ho : ops[k]? = some o) : ∀ e ∈ o.after, Region.binds .any e = true → e.on < k := fun e he hb => by
  have hk := (Array.getElem?_eq_some_iff.1 ho).1
  unfold earlyB at h
  rw [List.all_eq_true] at h
  have h2 := h k (List.mem_range.2 hk)
  rw [List.all_eq_true] at h2
  have h3 := h2 e (by rw [Array.getD_eq_getD_getElem?, ho]; exact Array.mem_toList_iff.2 he)
  rw [hb] at h3
  simpa using h3

theorem dc_no {ops : Array Oper} {L : Nat → Bool} {n i : Nat} (hC : DC ops L) (hL : L i = false) (hb : (earlyB ops && (decide (n < ops.size) && reachB ops (n + 1) n i)) = true) : L n = false := by
  simp only [Bool.and_eq_true, decide_eq_true_eq] at hb
  cases h : L n
  · rfl
  rw [dc_reach hC _ n i hb.2.1 (fun k o ho e he hb' => Nat.lt_trans (early_on hb.1 k o ho e he hb') (Array.getElem?_eq_some_iff.1 ho).1) h hb.2.2] at hL
  cases hL

theorem flat_at {α : Type} {sz : Nat} : ∀ {css : List (List α)}, (∀ cs ∈ css, cs.length = sz) → ∀ {k : Nat} {cs : List α}, css[k]? = some cs → ∀ {r : Nat} {u : α}, cs[r]? = some u → css.flatten[k * sz + r]? = some u
  | [], _, _, _, h, _, _, _ => by simp at h
  | c0 :: css, hl, 0, cs, h, r, u, hr => by
    simp at h
    subst h
    rw [List.flatten_cons, Nat.zero_mul, Nat.zero_add, List.getElem?_append_left (List.getElem?_eq_some_iff.1 hr).1]
    exact hr
  | c0 :: css, hl, k + 1, cs, h, r, u, hr => by
    have h0 : c0.length = sz := hl c0 (by simp)
    have := flat_at (css := css) (fun cs h => hl cs (List.mem_cons_of_mem _ h)) (by simpa using h) hr
    rw [List.flatten_cons, List.getElem?_append_right (by rw [h0, Nat.succ_mul]; omega), h0]
    rw [show (k + 1) * sz + r - sz = k * sz + r by rw [Nat.succ_mul]; omega]
    exact this

/-- A slice of elements of sz cells each, read as l by R. -/
def RSl {α : Type} (R : World → List Value → α → Prop) (sz : Nat) (w : World) (v : Value) (l : List α) : Prop :=
  ∃ (A : Option Addr) (c : Nat) (css : List (List Value)), v = .slice A l.length c ∧ l.length ≤ maxLen ∧ css.length = l.length ∧ (∀ cs ∈ css, cs.length = sz) ∧ Cells w A css.flatten ∧
    ∀ (i : Nat) cs x, css[i]? = some cs → l[i]? = some x → R w cs x

/-- R reads memory alone, and what was there stays. -/
def KeepR {α : Type} (R : World → List Value → α → Prop) : Prop := ∀ (w w' : World) cs x, R w cs x → Below w.heap.size w w' → R w' cs x

section
variable {α : Type} {R : World → List Value → α → Prop} {sz : Nat} {w w' : World} {v : Value} {l : List α}

theorem RSl.below (h : RSl R sz w v l) (hR : KeepR R) (hb : Below w.heap.size w w') : RSl R sz w' v l := by
  obtain ⟨A, c, css, e, hm, hl, hsz, hc, hr⟩ := h
  exact ⟨A, c, css, e, hm, hl, hsz, hc.below hb, fun i cs x h1 h2 => hR _ _ _ _ (hr i cs x h1 h2) hb⟩

/-- The address of the slice, and of each element its cells. -/
theorem RSl.at_ (h : RSl R sz w v l) (h0 : 0 < sz) {k : Nat} {x : α} (hk : l[k]? = some x) :
    ∃ b o c cs, v = .slice (some ⟨b, o, none⟩) l.length c ∧ cs.length = sz ∧ R w cs x ∧ ∀ r u, cs[r]? = some u → w.cell? ⟨b, o + (k * sz + r), none⟩ = some u := by
  obtain ⟨A, c, css, e, hm, hl, hsz, hc, hr⟩ := h
  have hkl := (List.getElem?_eq_some_iff.1 hk).1
  have hcs : css[k]? = some (css[k]'(by omega)) := List.getElem?_eq_getElem (by omega)
  have hlen := hsz _ (List.getElem_mem (l := css) (n := k) (by omega))
  have h1 := flat_at hsz hcs (List.getElem?_eq_getElem (l := css[k]'(by omega)) (i := 0) (by omega))
  obtain ⟨b, o, rfl, hcc⟩ := hc.at_ (List.getElem?_eq_some_iff.1 h1).1
  exact ⟨b, o, c, _, e, hlen, hr k _ x hcs hk, fun r u hu => hcc _ _ (flat_at hsz hcs hu)⟩

theorem RSl.form (h : RSl R sz w v l) : ∃ A c, v = .slice A l.length c ∧ l.length ≤ maxLen := by
  obtain ⟨A, c, css, e, hm, _⟩ := h
  exact ⟨A, c, e, hm⟩
end

/-- The cells cs written into a list from i on. -/
def setL {α : Type} : List α → Nat → List α → List α
  | l, _, [] => l
  | l, i, c :: cs => setL (l.set i c) (i + 1) cs

theorem owns_setCells {base : Nat} {e : TypeId} {size n cap g : Nat} : ∀ (cs : List Value) (w : World) (i : Nat) (xs : List Value), w.ownsRow base e size (.slice (some ⟨g, 0, none⟩) n cap) n xs →
    (w.setCells g i cs).ownsRow base e size (.slice (some ⟨g, 0, none⟩) n cap) n (setL xs i cs)
  | [], w, i, xs, h => h
  | c :: cs, w, i, xs, h => owns_setCells cs _ (i + 1) _ (h.stored i c).1

theorem kept_setCells {S : Nat → Prop} {g : Nat} (hg : S g) : ∀ (cs : List Value) (a w : World) (i : Nat), Kept S a w → Kept S a (w.setCells g i cs)
  | [], _, _, _, h => h
  | c :: cs, a, w, i, h => kept_setCells hg cs a _ (i + 1) (h.setCell (p := ⟨g, i, none⟩) hg c)

section
variable {α : Type} {O : World → (Nat → Prop) → List Value → α → Prop} {R : World → List Value → α → Prop} {sz : Nat} {w w' : World} {S T : Nat → Prop} {v : Value} {l : List α}
end

abbrev Ct := ByteArray × Int × Int
def encCt (c : Ct) : List Value := [.string c.1, .int .i64 c.2.1, .int .i64 c.2.2]
def RCt (_ : World) (cs : List Value) (c : Ct) : Prop := cs = encCt c
theorem RCt_keep : KeepR RCt := fun _ _ _ _ h _ => h

/-- A node: its control, its parent, its links. -/
abbrev Nod := Int × Int × List Int
def RNod (w : World) (cs : List Value) (x : Nod) : Prop := ∃ A c, cs = [.int .i64 x.1, .int .i64 x.2.1, .slice A x.2.2.length c] ∧ Cells w A (ints x.2.2)
theorem RNod_keep : KeepR RNod := fun w w' cs x h hb => by
  obtain ⟨A, c, e, hc⟩ := h
  exact ⟨A, c, e, hc.below hb⟩

abbrev Wi := ByteArray × Int
def encWi (x : Wi) : List Value := [.string x.1, .int .i64 x.2]
def RWi (_ : World) (cs : List Value) (x : Wi) : Prop := cs = encWi x
theorem RWi_keep : KeepR RWi := fun _ _ _ _ h _ => h

abbrev strs (ls : List ByteArray) : List Value := ls.map Value.string
theorem getElem?_strs (ls : List ByteArray) (j : Nat) (h : j < ls.length) : (strs ls)[j]? = some (.string (ls.getD j default)) := by
  simp [strs, List.getD, h]
theorem Cells.str {w : World} {A : Option Addr} {ls : List ByteArray} (h : Cells w A (strs ls)) {k : Nat} (hk : k < ls.length) :
    ∃ b o, A = some ⟨b, o, none⟩ ∧ ∀ j, j < ls.length → w.cell? ⟨b, o + j, none⟩ = some (.string (ls.getD j default)) := by
  obtain ⟨b, o, e, hc⟩ := h.at_ (k := k) (by simpa [strs] using hk)
  exact ⟨b, o, e, fun j hj => hc j _ (getElem?_strs ls j hj)⟩

structure Gr where
  roots : Int
  nodes : List Nod
  sites : List Int
  edges : Int
  outer : List ByteArray
  inner : List Wi

/-- The bigraph's value reads as g: nodes, sites, outer names and inner names by their slices. -/
structure RGr (w : World) (nv sv ov iv : Value) (g : Gr) : Prop where
  n : RSl RNod 3 w nv g.nodes
  s : ∃ A c, sv = .slice A g.sites.length c ∧ Cells w A (ints g.sites)
  o : ∃ A c, ov = .slice A g.outer.length c ∧ Cells w A (strs g.outer)
  i : RSl RWi 2 w iv g.inner

/-- How large a signature is that the draws give, and a bigraph. -/
structure SmallS (l : List Ct) : Prop where
  len : l.length ≤ 1000
  name : ∀ c ∈ l, c.1.size ≤ 1000
structure SmallG (g : Gr) : Prop where
  nodes : g.nodes.length ≤ 1000
  links : ∀ x ∈ g.nodes, x.2.2.length ≤ 1000
  sites : g.sites.length ≤ 1000
  outer : g.outer.length ≤ 1000
  onames : ∀ s ∈ g.outer, s.size ≤ 1000
  inner : g.inner.length ≤ 1000
  inames : ∀ x ∈ g.inner, x.1.size ≤ 1000
  edges : -1000 ≤ g.edges ∧ g.edges ≤ 1000
  roots : -1000 ≤ g.roots ∧ g.roots ≤ 1000
  pars : ∀ x ∈ g.nodes, -9223372036854775808 ≤ x.2.1
  sits : ∀ p ∈ g.sites, -9223372036854775808 ≤ p

section
variable {w w' : World} {nv sv ov iv v : Value} {g : Gr}
theorem RGr.below (h : RGr w nv sv ov iv g) (hb : Below w.heap.size w w') : RGr w' nv sv ov iv g := by
  obtain ⟨h1, ⟨A, c, e, h2⟩, ⟨B, d, e', h3⟩, h4⟩ := h
  exact ⟨h1.below RNod_keep hb, ⟨A, c, e, h2.below hb⟩, ⟨B, d, e', h3.below hb⟩, h4.below RWi_keep hb⟩
theorem RGr.form (h : RGr w nv sv ov iv g) : ∃ AN cN AS cS AO cO AI cI, nv = .slice AN g.nodes.length cN ∧ sv = .slice AS g.sites.length cS ∧ ov = .slice AO g.outer.length cO ∧ iv = .slice AI g.inner.length cI := by
  obtain ⟨h1, ⟨A, c, e, h2⟩, ⟨B, d, e', h3⟩, h4⟩ := h
  obtain ⟨AN, cN, e1, _⟩ := h1.form
  obtain ⟨AI, cI, e2, _⟩ := h4.form
  exact ⟨AN, cN, A, c, B, d, AI, cI, e1, e, e', e2⟩

theorem ct_at {l : List Ct} (h : RSl RCt 3 w v l) {k : Nat} (hk : k < l.length) : ∃ b o c, v = .slice (some ⟨b, o, none⟩) l.length c ∧
    w.cell? ⟨b, o + k * 3, none⟩ = some (.string l[k].1) ∧ w.cell? ⟨b, o + k * 3 + 1, none⟩ = some (.int .i64 l[k].2.1) ∧ w.cell? ⟨b, o + k * 3 + 2, none⟩ = some (.int .i64 l[k].2.2) := by
  obtain ⟨b, o, c, cs, ev, hl, hr, hc⟩ := h.at_ (by decide) (List.getElem?_eq_getElem hk)
  subst hr
  refine ⟨b, o, c, ev, ?_, ?_, ?_⟩
  · exact hc 0 _ rfl
  · exact hc 1 _ rfl
  exact hc 2 _ rfl
theorem nod_at {l : List Nod} (h : RSl RNod 3 w v l) {k : Nat} (hk : k < l.length) : ∃ b o c A d, v = .slice (some ⟨b, o, none⟩) l.length c ∧
    w.cell? ⟨b, o + k * 3, none⟩ = some (.int .i64 l[k].1) ∧ w.cell? ⟨b, o + k * 3 + 1, none⟩ = some (.int .i64 l[k].2.1) ∧ w.cell? ⟨b, o + k * 3 + 2, none⟩ = some (.slice A l[k].2.2.length d) ∧ Cells w A (ints l[k].2.2) := by
  obtain ⟨b, o, c, cs, ev, hl, ⟨A, d, hr, hA⟩, hc⟩ := h.at_ (by decide) (List.getElem?_eq_getElem hk)
  subst hr
  refine ⟨b, o, c, A, d, ev, ?_, ?_, ?_, hA⟩
  · exact hc 0 _ rfl
  · exact hc 1 _ rfl
  exact hc 2 _ rfl
theorem wi_at {l : List Wi} (h : RSl RWi 2 w v l) {k : Nat} (hk : k < l.length) : ∃ b o c, v = .slice (some ⟨b, o, none⟩) l.length c ∧
    w.cell? ⟨b, o + k * 2, none⟩ = some (.string l[k].1) ∧ w.cell? ⟨b, o + k * 2 + 1, none⟩ = some (.int .i64 l[k].2) := by
  obtain ⟨b, o, c, cs, ev, hl, hr, hc⟩ := h.at_ (by decide) (List.getElem?_eq_getElem hk)
  subst hr
  refine ⟨b, o, c, ev, ?_, ?_⟩
  · exact hc 0 _ rfl
  exact hc 1 _ rfl
end

def inB (n lo hi : Int) : Bool := decide (lo ≤ n) && decide (n ≤ hi)

theorem inB_true {n lo hi : Int} (h : inB n lo hi = true) : lo ≤ n ∧ n ≤ hi := by simpa [inB] using h
set_option maxHeartbeats 400000 in
theorem within_any (n lo hi : Int) (w : World) :
    Calls Tryz.prog 90 #[.int .i64 n, .int .i64 lo, .int .i64 hi] w fun e w' => e = .returned (.bool (inB n lo hi)) ∧ w = w' := by
  unfold inB
  go_enter Tryz.func90, Tryz.ntmps90
  go_wp2
  all_goals go_ret
  all_goals exact ⟨by simp [*]; try omega, rfl⟩

set_option maxHeartbeats 400000 in
theorem l1In_any (n lo hi : Int) (w : World) :
    Calls Tryz.prog 93 #[.int .i64 n, .int .i64 lo, .int .i64 hi] w fun e w' => e = .returned (.bool (inB n lo hi)) ∧ w = w' := by
  unfold inB
  go_enter Tryz.func93, Tryz.ntmps93
  go_wp2
  all_goals go_ret
  all_goals exact ⟨by simp [*]; try omega, rfl⟩

end Go.Proofs.YtijkdpdmclkmlaaGreatDoor

namespace Go.Proofs
open Go.Shelf
def Tryz.lays160_ren : Go.Shelf.Ren := ⟨fun | 160 => 198 | 232 => 240 | 231 => 239 | 227 => 241 | 234 => 243 | 233 => 242 | 236 => 245 | 235 => 244 | 228 => 266 | 271 => 269 | 151 => 268 | 197 => 267 | 120 => 295 | 152 => 294 | 260 => 293 | 137 => 304 | 119 => 305 | 224 => 306 | 225 => 307 | 217 => 310 | 266 => 311 | n => n, fun | 9 => 9 | 4 => 4 | 3 => 3 | 5 => 5 | 117 => 176 | 116 => 175 | 0 => 0 | 124 => 179 | 21 => 21 | 105 => 199 | 46 => 128 | 119 => 226 | 139 => 229 | 138 => 228 | n => n, fun | 3 => 0 | 4 => 1 | n => n⟩
theorem Tryz.lays160 : Go.Proofs.Lays.n160 Tryz.prog Tryz.lays160_ren := {
  mixed := by kernel_rfl
  f119 := Tryz.func305.trans (congrArg some (by kernel_rfl))
  f120 := Tryz.func295.trans (congrArg some (by kernel_rfl))
  f137 := Tryz.func304.trans (congrArg some (by kernel_rfl))
  f151 := Tryz.func268.trans (congrArg some (by kernel_rfl))
  f152 := Tryz.func294.trans (congrArg some (by kernel_rfl))
  f160 := Tryz.func198.trans (congrArg some (by kernel_rfl))
  f197 := Tryz.func267.trans (congrArg some (by kernel_rfl))
  f217 := Tryz.func310.trans (congrArg some (by kernel_rfl))
  f224 := Tryz.func306.trans (congrArg some (by kernel_rfl))
  f225 := Tryz.func307.trans (congrArg some (by kernel_rfl))
  f227 := Tryz.func241.trans (congrArg some (by kernel_rfl))
  f228 := Tryz.func266.trans (congrArg some (by kernel_rfl))
  f231 := Tryz.func239.trans (congrArg some (by kernel_rfl))
  f232 := Tryz.func240.trans (congrArg some (by kernel_rfl))
  f233 := Tryz.func242.trans (congrArg some (by kernel_rfl))
  f234 := Tryz.func243.trans (congrArg some (by kernel_rfl))
  f235 := Tryz.func244.trans (congrArg some (by kernel_rfl))
  f236 := Tryz.func245.trans (congrArg some (by kernel_rfl))
  f260 := Tryz.func293.trans (congrArg some (by kernel_rfl))
  f266 := Tryz.func311.trans (congrArg some (by kernel_rfl))
  f271 := Tryz.func269.trans (congrArg some (by kernel_rfl))
  t0 := Tryz.underlying0
  a0 := Tryz.isAgg0
  z0 := Tryz.sizeOf0
  v0 := Tryz.zeroValue0
  t3 := Tryz.underlying3
  a3 := Tryz.isAgg3
  z3 := Tryz.sizeOf3
  v3 := Tryz.zeroValue3
  t4 := Tryz.underlying4
  a4 := Tryz.isAgg4
  z4 := Tryz.sizeOf4
  v4 := Tryz.zeroValue4
  t5 := Tryz.underlying5
  a5 := Tryz.isAgg5
  z5 := Tryz.sizeOf5
  v5 := Tryz.zeroValue5
  t9 := Tryz.underlying9
  a9 := Tryz.isAgg9
  z9 := Tryz.sizeOf9
  v9 := Tryz.zeroValue9
  t21 := Tryz.underlying21
  a21 := Tryz.isAgg21
  z21 := Tryz.sizeOf21
  v21 := Tryz.zeroValue21
  t46 := Tryz.underlying128
  a46 := Tryz.isAgg128
  z46 := Tryz.sizeOf128
  v46 := Tryz.zeroValue128
  t105 := Tryz.underlying199
  a105 := Tryz.isAgg199
  z105 := Tryz.sizeOf199
  v105 := Tryz.zeroValue199
  t116 := Tryz.underlying175
  a116 := Tryz.isAgg175
  z116 := Tryz.sizeOf175
  t117 := Tryz.underlying176
  a117 := Tryz.isAgg176
  z117 := Tryz.sizeOf176
  v117 := Tryz.zeroValue176
  t119 := Tryz.underlying226
  a119 := Tryz.isAgg226
  z119 := Tryz.sizeOf226
  t124 := Tryz.underlying179
  a124 := Tryz.isAgg179
  z124 := Tryz.sizeOf179
  v124 := Tryz.zeroValue179
  t138 := Tryz.underlying228
  a138 := Tryz.isAgg228
  z138 := Tryz.sizeOf228
  v138 := Tryz.zeroValue228
  t139 := Tryz.underlying229
  a139 := Tryz.isAgg229
  z139 := Tryz.sizeOf229
  v139 := Tryz.zeroValue229
  g3 := by kernel_rfl
  g4 := by kernel_rfl }
end Go.Proofs
