/- Slices whose elements take several cells: how they are read. No program is in sight. A list without neighbours that are the same: plain. -/
import Derived.Test.YtdgnhfhaaghoaaaGreatDoorJ0
import Derived.Lib.SliceRun
set_option linter.unusedSimpArgs false
set_option linter.unusedVariables false
namespace Go.Proofs.YtdgnhfhaaghoaaaGreatDoor
open Go.RowKit

theorem flat_at {α : Type} {sz : Nat} : ∀ {css : List (List α)}, (∀ cs ∈ css, cs.length = sz) → ∀ {k : Nat} {cs : List α}, css[k]? = some cs → ∀ {r : Nat} {u : α}, cs[r]? = some u → css.flatten[k * sz + r]? = some u
  | [], _, _, _, h, _, _, _ => by simp at h
  | c0 :: css, hl, 0, cs, h, r, u, hr => by
    simp at h
    subst h
    rw [List.flatten_cons, Nat.zero_mul, Nat.zero_add, List.getElem?_append_left (List.getElem?_eq_some_iff.1 hr).1]
    exact hr
  | c0 :: css, hl, k + 1, cs, h, r, u, hr => by
    have h0 : c0.length = sz := hl c0 (by simp)
    have := flat_at (css := css) (fun cs h => hl cs (List.mem_cons_of_mem _ h)) (by simpa using h) hr
    rw [List.flatten_cons, List.getElem?_append_right (by rw [h0, Nat.succ_mul]; omega), h0]
    rw [show (k + 1) * sz + r - sz = k * sz + r by rw [Nat.succ_mul]; omega]
    exact this

/-- A slice of elements of sz cells each, read as l by R. -/
def RSl {α : Type} (R : World → List Value → α → Prop) (sz : Nat) (w : World) (v : Value) (l : List α) : Prop :=
  ∃ (A : Option Addr) (c : Nat) (css : List (List Value)), v = .slice A l.length c ∧ l.length ≤ maxLen ∧ css.length = l.length ∧ (∀ cs ∈ css, cs.length = sz) ∧ Cells w A css.flatten ∧
    ∀ (i : Nat) cs x, css[i]? = some cs → l[i]? = some x → R w cs x

/-- R reads memory alone, and what was there stays. -/
def KeepR {α : Type} (R : World → List Value → α → Prop) : Prop := ∀ (w w' : World) cs x, R w cs x → Below w.heap.size w w' → R w' cs x

section
variable {α : Type} {R : World → List Value → α → Prop} {sz : Nat} {w w' : World} {v : Value} {l : List α}

theorem RSl.below (h : RSl R sz w v l) (hR : KeepR R) (hb : Below w.heap.size w w') : RSl R sz w' v l := by
  obtain ⟨A, c, css, e, hm, hl, hsz, hc, hr⟩ := h
  exact ⟨A, c, css, e, hm, hl, hsz, hc.below hb, fun i cs x h1 h2 => hR _ _ _ _ (hr i cs x h1 h2) hb⟩

/-- The address of the slice, and of each element its cells. -/
theorem RSl.at_ (h : RSl R sz w v l) (h0 : 0 < sz) {k : Nat} {x : α} (hk : l[k]? = some x) :
    ∃ b o c cs, v = .slice (some ⟨b, o, none⟩) l.length c ∧ cs.length = sz ∧ R w cs x ∧ ∀ r u, cs[r]? = some u → w.cell? ⟨b, o + (k * sz + r), none⟩ = some u := by
  obtain ⟨A, c, css, e, hm, hl, hsz, hc, hr⟩ := h
  have hkl := (List.getElem?_eq_some_iff.1 hk).1
  have hcs : css[k]? = some (css[k]'(by omega)) := List.getElem?_eq_getElem (by omega)
  have hlen := hsz _ (List.getElem_mem (l := css) (n := k) (by omega))
  have h1 := flat_at hsz hcs (List.getElem?_eq_getElem (l := css[k]'(by omega)) (i := 0) (by omega))
  obtain ⟨b, o, rfl, hcc⟩ := hc.at_ (List.getElem?_eq_some_iff.1 h1).1
  exact ⟨b, o, c, _, e, hlen, hr k _ x hcs hk, fun r u hu => hcc _ _ (flat_at hsz hcs hu)⟩

theorem RSl.form (h : RSl R sz w v l) : ∃ A c, v = .slice A l.length c ∧ l.length ≤ maxLen := by
  obtain ⟨A, c, css, e, hm, _⟩ := h
  exact ⟨A, c, e, hm⟩
end

/-- The cells cs written into a list from i on. -/
def setL {α : Type} : List α → Nat → List α → List α
  | l, _, [] => l
  | l, i, c :: cs => setL (l.set i c) (i + 1) cs

theorem setL_mid {α : Type} : ∀ (cs P z R : List α), z.length = cs.length → setL (P ++ (z ++ R)) P.length cs = P ++ (cs ++ R)
  | [], P, z, R, h => by
    have : z = [] := List.eq_nil_of_length_eq_zero h
    subst this
    rfl
  | c :: cs, P, [], R, h => by simp at h
  | c :: cs, P, x :: z, R, h => by
    rw [setL, List.set_append_right _ _ (Nat.le_refl _), Nat.sub_self]
    have e1 : P ++ (x :: z ++ R).set 0 c = (P ++ [c]) ++ (z ++ R) := by simp
    have e2 : P.length + 1 = (P ++ [c]).length := by simp
    rw [e1, e2, setL_mid cs (P ++ [c]) z R (by simpa using h)]
    simp

theorem owns_setCells {base : Nat} {e : TypeId} {size n cap g : Nat} : ∀ (cs : List Value) (w : World) (i : Nat) (xs : List Value), w.ownsRow base e size (.slice (some ⟨g, 0, none⟩) n cap) n xs →
    (w.setCells g i cs).ownsRow base e size (.slice (some ⟨g, 0, none⟩) n cap) n (setL xs i cs)
  | [], w, i, xs, h => h
  | c :: cs, w, i, xs, h => owns_setCells cs _ (i + 1) _ (h.stored i c).1

theorem kept_setCells {S : Nat → Prop} {g : Nat} (hg : S g) : ∀ (cs : List Value) (a w : World) (i : Nat), Kept S a w → Kept S a (w.setCells g i cs)
  | [], _, _, _, h => h
  | c :: cs, a, w, i, h => kept_setCells hg cs a _ (i + 1) (h.setCell (p := ⟨g, i, none⟩) hg c)

/-- O keeps: it is not touched by what turns elsewhere, and its blocks may be told more widely. -/
structure KeepO {α : Type} (O : World → (Nat → Prop) → List Value → α → Prop) : Prop where
  kept : ∀ (w w' : World) (S T : Nat → Prop) cs x, O w S cs x → Kept T w w' → (∀ b, S b → ¬ T b) → O w' S cs x
  mono : ∀ (w : World) (S T : Nat → Prop) cs x, O w S cs x → (∀ b, S b → T b) → O w T cs x

theorem KeepO.below {α : Type} {O : World → (Nat → Prop) → List Value → α → Prop} (hO : KeepO O) {w w' : World} {S : Nat → Prop} {cs : List Value} {x : α} {B : Nat} (h : O w S cs x) (hb : Below B w w') (hB : w.heap.size ≤ B) : O w' S cs x :=
  hO.kept w w' S (fun _ => False) cs x h ⟨hb.os, hb.tape, hb.output, hb.size, fun b hb' _ => hb.block b (by omega)⟩ (fun _ _ k => k)

/-- A slice of elements of sz cells each, that may be written; no two elements share a block, and none the slice's own. -/
def OSl {α : Type} (O : World → (Nat → Prop) → List Value → α → Prop) (sz : Nat) (w : World) (S : Nat → Prop) (v : Value) (l : List α) : Prop :=
  ∃ (css : List (List Value)) (S0 : Nat → Prop) (T : Nat → Nat → Prop), Own w S0 v l.length css.flatten ∧ css.length = l.length ∧ (∀ cs ∈ css, cs.length = sz) ∧
    (∀ (i : Nat) cs x, css[i]? = some cs → l[i]? = some x → O w (T i) cs x) ∧ (∀ b, S0 b → S b) ∧ (∀ i b, T i b → S b ∧ ¬ S0 b) ∧ (∀ i j b, T i b → T j b → i = j)

section
variable {α : Type} {O : World → (Nat → Prop) → List Value → α → Prop} {R : World → List Value → α → Prop} {sz : Nat} {w w' : World} {S T : Nat → Prop} {v : Value} {l : List α}
theorem OSl.kept (hO : KeepO O) (h : OSl O sz w S v l) (hk : Kept T w w') (hd : ∀ b, S b → ¬ T b) : OSl O sz w' S v l := by
  obtain ⟨css, S0, U, h0, hl, hsz, hi, a1, a2, a3⟩ := h
  exact ⟨css, S0, U, h0.kept hk (fun b hb => hd b (a1 b hb)), hl, hsz, fun i cs x h1 h2 => hO.kept _ _ _ _ _ _ (hi i cs x h1 h2) hk (fun b hb => hd b (a2 i b hb).1), a1, a2, a3⟩
theorem OSl.mono (h : OSl O sz w S v l) (hs : ∀ b, S b → T b) : OSl O sz w T v l := by
  obtain ⟨css, S0, U, h0, hl, hsz, hi, a1, a2, a3⟩ := h
  exact ⟨css, S0, U, h0, hl, hsz, hi, fun b hb => hs b (a1 b hb), fun i b hb => ⟨hs b (a2 i b hb).1, (a2 i b hb).2⟩, a3⟩
theorem OSl.below (hO : KeepO O) {B : Nat} (h : OSl O sz w S v l) (hb : Below B w w') (hB : w.heap.size ≤ B) : OSl O sz w' S v l :=
  h.kept hO (T := fun _ => False) ⟨hb.os, hb.tape, hb.output, hb.size, fun b hb' _ => hb.block b (by omega)⟩ (fun _ _ k => k)
theorem OSl.form (h : OSl O sz w S v l) : ∃ A c, v = .slice A l.length c := by
  obtain ⟨css, S0, U, ⟨A, c, e, _⟩, _⟩ := h
  exact ⟨A, c, e⟩
end

end Go.Proofs.YtdgnhfhaaghoaaaGreatDoor

set_option linter.unusedVariables false
namespace Go.Proofs.YtdgnhfhaaghoaaaGreatDoor
open Go.RowKit

section
variable {α : Type} [DecidableEq α] (z : α)
def keepC (l : List α) (i : Nat) : Bool := i == 0 || !decide (l.getD i z = l.getD (i - 1) z)
/-- The first m elements without those that are the same as the one before. -/
def compC (l : List α) (m : Nat) : List α := ((List.range m).filter (keepC z l)).map fun i => l.getD i z
def mixC (l : List α) (m : Nat) : List α := compC z l m ++ l.drop (compC z l m).length
variable {z}
theorem compC_yes {l : List α} {m : Nat} (h : keepC z l m = true) : compC z l (m + 1) = compC z l m ++ [l.getD m z] := by
  unfold compC
  rw [List.range_succ, List.filter_append, List.filter_cons, h, List.map_append]
  rfl
theorem compC_no {l : List α} {m : Nat} (h : keepC z l m = false) : compC z l (m + 1) = compC z l m := by
  unfold compC
  rw [List.range_succ, List.filter_append, List.filter_cons, h]
  simp
theorem compC_len (l : List α) (m : Nat) : (compC z l m).length ≤ m := by
  unfold compC
  rw [List.length_map]
  exact Nat.le_trans (List.length_filter_le _ _) (by simp)
theorem compC_one (l : List α) (h : 1 ≤ l.length) : compC z l 1 = l.take 1 := by
  cases l with
  | nil => simp at h
  | cons a l => simp [compC, keepC]
theorem compC_take {l : List α} {k : Nat} (hk : k ≤ l.length) (h : compC z l k = l.take k) (hl : k < l.length) (hy : keepC z l k = true) : compC z l (k + 1) = l.take (k + 1) := by
  rw [compC_yes hy, h, List.take_succ_eq_append_getElem hl]
  simp [List.getD, hl]
theorem mixC_start {l : List α} {k : Nat} (h : compC z l k = l.take k) (hl : k < l.length) (hn : keepC z l k = false) : mixC z l (k + 1) = l := by
  unfold mixC
  rw [compC_no hn, h, List.length_take, Nat.min_eq_left (by omega), List.take_append_drop]
theorem mixC_len {l : List α} {m : Nat} (hm : m ≤ l.length) : (mixC z l m).length = l.length := by
  unfold mixC
  have := compC_len (z := z) l m
  rw [List.length_append, List.length_drop]
  omega
theorem mixC_at {l : List α} {m j : Nat} (h : (compC z l m).length ≤ j) : (mixC z l m)[j]? = l[j]? := by
  unfold mixC
  rw [List.getElem?_append_right h, List.getElem?_drop]
  congr 1
  omega
theorem mixC_no {l : List α} {m : Nat} (h : keepC z l m = false) : mixC z l (m + 1) = mixC z l m := by
  unfold mixC
  rw [compC_no h]
theorem mixC_yes {l : List α} {m : Nat} (hm : m < l.length) (h : keepC z l m = true) : (mixC z l m).set (compC z l m).length (l.getD m z) = mixC z l (m + 1) := by
  have hl := compC_len (z := z) l m
  unfold mixC
  have hd : l.drop (compC z l m).length = l[(compC z l m).length]'(by omega) :: l.drop ((compC z l m).length + 1) := List.drop_eq_getElem_cons (by omega)
  rw [compC_yes h, List.set_append_right _ _ (Nat.le_refl _), Nat.sub_self, hd, List.set_cons_zero, List.length_append]
  simp only [List.length_cons, List.length_nil, Nat.zero_add, List.append_assoc, List.cons_append, List.nil_append]
theorem mixC_take {l : List α} {m : Nat} : (mixC z l m).take (compC z l m).length = compC z l m := by
  unfold mixC
  simp
theorem compC_step (l : List α) (m : Nat) : (compC z l (m + 1)).length = (compC z l m).length + if keepC z l m then 1 else 0 := by
  cases h : keepC z l m
  · rw [compC_no h]; rfl
  · rw [compC_yes h]; simp
theorem compC_mem {l : List α} {x : α} : x ∈ compC z l l.length ↔ x ∈ l := by
  unfold compC
  simp only [List.mem_map, List.mem_filter, List.mem_range]
  constructor
  · rintro ⟨i, ⟨hi, _⟩, rfl⟩
    simp [List.getD, hi]
  · intro hx
    obtain ⟨i, hi, rfl⟩ := List.getElem_of_mem hx
    induction i using Nat.strongRecOn with
    | ind i ih =>
      cases h : keepC z l i
      · unfold keepC at h
        simp only [Bool.or_eq_false_iff, beq_eq_false_iff_ne, ne_eq, Bool.not_eq_false', decide_eq_true_eq] at h
        obtain ⟨j, hj, e⟩ := ih (i - 1) (by omega) (by omega) (List.getElem_mem (by omega))
        refine ⟨j, hj, e.trans ?_⟩
        have := h.2
        simp only [List.getD, hi, show i - 1 < l.length by omega, List.getElem?_eq_getElem, Option.getD_some] at this
        exact this.symm
      · exact ⟨i, ⟨hi, h⟩, by simp [List.getD, hi]⟩
/-- A list in order gives one that is strictly in order. -/
theorem compC_strict {R : α → α → Prop} {S : α → α → Prop} (hRS : ∀ a b, R a b → a ≠ b → S a b) (hS : ∀ a b c, R a b → S b c → S a c) {l : List α} (h : l.Pairwise R) (hr : ∀ a, R a a) : (compC z l l.length).Pairwise S := by
  unfold compC
  rw [List.pairwise_map]
  have h0 : ((List.range l.length).filter (keepC z l)).Pairwise (fun a b => a < b ∧ b < l.length ∧ keepC z l b = true) := by
    have h1 := (List.pairwise_lt_range (n := l.length)).filter (keepC z l)
    rw [List.pairwise_iff_getElem] at h1 ⊢
    intro i j hi hj hij
    have hm := List.getElem_mem hj
    rw [List.mem_filter, List.mem_range] at hm
    exact ⟨h1 i j hi hj hij, hm.1, hm.2⟩
  refine h0.imp ?_
  rintro a b ⟨hab, hb, hk⟩
  unfold keepC at hk
  simp only [Bool.or_eq_true, beq_iff_eq, Bool.not_eq_true', decide_eq_false_iff_not] at hk
  have hb1 : b - 1 < l.length := by omega
  rcases hk with hk | hk
  · omega
  simp only [List.getD, hb, hb1, show a < l.length by omega, List.getElem?_eq_getElem, Option.getD_some] at hk ⊢
  have hlt : R l[b - 1] l[b] := (List.pairwise_iff_getElem.1 h) _ _ hb1 hb (by omega)
  have hs := hRS _ _ hlt (fun e => hk e.symm)
  by_cases e : a = b - 1
  · subst e; exact hs
  · exact hS _ _ _ ((List.pairwise_iff_getElem.1 h) a (b - 1) (by omega) hb1 (by omega)) hs
end

theorem setL_take {α : Type} : ∀ (cs l : List α) (i j : Nat), j ≤ i → (setL l i cs).take j = l.take j
  | [], _, _, _, _ => rfl
  | c :: cs, l, i, j, h => by rw [setL, setL_take cs _ _ _ (by omega), List.take_set_of_le h]
theorem owns_take {w : World} {B : Nat} {e : TypeId} {size g n c k : Nat} {xs : List Value} (h : w.ownsRow B e size (.slice (some ⟨g, 0, none⟩) n c) n xs) (hk : k ≤ n) : w.ownsRow B e size (.slice (some ⟨g, 0, none⟩) k c) k (xs.take (k * size)) := by
  have hl := h.1
  have hm := Nat.mul_le_mul_right size hk
  rcases h.2 with ⟨e1, _⟩ | ⟨g', cap, cur, e1, h1, h2, h3, h4, h5, h6⟩
  · cases e1
  · cases e1
    refine ⟨by rw [List.length_take]; omega, .inr ⟨g, c, cur, rfl, h1, h2, by omega, h4, h5, ?_⟩⟩
    rw [← h6, List.take_take, Nat.min_eq_left hm]
theorem run_clear_rows {P : Program} (w : World) (t e ty : TypeId) (z : Value) (size : Nat) (ht : P.underlying t = some (.slice e)) (hv : ∀ w, (zeroValue e).run P w = .ok z w) (hz : z.cells.size = size) (h1 : ∀ v ∈ z.cells, v.oneCell' = true) (b o n c : Nat) (hn : 0 < n) (h0 : 0 < size)
    (hc : ∀ j, j < n * size → (w.cell? ⟨b, o + j, none⟩).isSome = true) (hf : ∀ j, j < n * size → w.frozen? ⟨b, o + j, none⟩ = false) :
    (Builtin.clear_ #[t] ty #[.slice (some ⟨b, o, none⟩) n c]).run P w = .ok (.tuple #[]) (w.setCells b o (Builtin.zeroCells z.cells n).toList) := by
  have hzl : (Builtin.zeroCells z.cells n).toList.length = n * size := by simp [Builtin.zeroCells, hz]
  have hz1 : ∀ v ∈ (Builtin.zeroCells z.cells n).toList, v.oneCell' = true := by
    intro v hv
    simp only [Builtin.zeroCells, Array.toList_map, List.mem_map] at hv
    obtain ⟨i, _, rfl⟩ := hv
    refine h1 _ ?_
    have hlt : i % z.cells.size < z.cells.size := Nat.mod_lt _ (by omega)
    simp [hlt]
  have hst := run_storeCells_cells (P := P) b o (Builtin.zeroCells z.cells n).toList 0 w (by rw [hzl]; simpa using hc) (by rw [hzl]; simpa using hf) hz1
  simp only [Nat.add_zero] at hst
  obtain ⟨m, rfl⟩ : ∃ m, n = m + 1 := ⟨n - 1, by omega⟩
  simp [Builtin.clear_, run_underlying ht, hv, hst]

end Go.Proofs.YtdgnhfhaaghoaaaGreatDoor
