/- Systems: rankings. Plain law of the walk: bounds, the goals' noughts, the sweep. -/
import Derived.Test.YtlgdmafgbmnjdaaSRankL
import Derived.Test.YtlgdmafgbmnjdaaIdx
set_option linter.unusedVariables false
namespace Go.Proofs.Ytlgdmafgbmnjdaa

theorem fold_rk_le {o : List Int} {M : Int} : ∀ (nx : List Int) (m : Int), m ≤ M → (∀ k ∈ nx, atI o k ≤ M) → nx.foldl (fun m k => if atI o k < m then m else atI o k) m ≤ M
  | [], m, hm, _ => hm
  | k :: nx, m, hm, h => by
    rw [List.foldl_cons]
    refine fold_rk_le nx _ ?_ (fun j hj => h j (List.mem_cons_of_mem _ hj))
    split
    · exact hm
    · exact h k (by simp)
theorem rkVal_le {nx o : List Int} {M : Int} (hM : -1 ≤ M) (h : ∀ k ∈ nx, atI o k ≤ M) : rkVal nx o ≤ M + 1 := by
  unfold rkVal
  have := fold_rk_le nx (-1) hM h
  omega

/-- No number is greater than the count of those that have one. -/
def Up (n : Nat) (o : List Int) : Prop := ∀ i : Nat, o.getD i 0 + (negs o : Int) ≤ n
theorem Up.at_ {n : Nat} {o : List Int} (h : Up n o) (k : Int) : atI o k ≤ (n : Int) - negs o := by
  have := h k.toNat
  unfold atI
  omega
theorem up_set {n i : Nat} {o : List Int} {v : Int} (h : Up n o) (hl : o.length = n) (hi : i < n) (h0 : o.getD i 0 < 0) (hv : 0 ≤ v) (hv2 : v ≤ (n : Int) - negs o + 1) : Up n (o.set i v) := by
  have hn := negs_set (o := o) (i := i) (x := v) (by omega) h0 hv
  intro j
  rw [getD_set _ _ _ _ (by omega)]
  have := h j
  split <;> omega
theorem rkInit_len (n : Nat) (g : List Int) : (rkInit n g).length = n := by simp [rkInit]
theorem up_init (n : Nat) (g : List Int) : Up n (rkInit n g) := by
  intro i
  have h1 := negs_le (rkInit n g)
  rw [rkInit_len] at h1
  by_cases hi : i < n
  · rw [rkInit_at hi]
    split <;> omega
  · rw [getD_ge (rkInit_len n g) (by omega)]
    omega

/-- The goals' noughts, one after the other. -/
def zeroG (o : List Int) (g : List Int) : List Int := g.foldl (fun o x => o.set x.toNat 0) o
theorem zeroG_len : ∀ (g o : List Int), (zeroG o g).length = o.length
  | [], o => rfl
  | x :: g, o => by
    unfold zeroG
    rw [List.foldl_cons]
    have := zeroG_len g (o.set x.toNat 0)
    unfold zeroG at this
    rw [this, List.length_set]
theorem zeroG_getD {n : Nat} : ∀ (g o : List Int), o.length = n → InN n g → ∀ i : Nat, i < n → (zeroG o g).getD i 0 = if (i : Int) ∈ g then 0 else o.getD i 0
  | [], o, _, _, i, _ => by simp [zeroG]
  | x :: g, o, hl, hg, i, hi => by
    obtain ⟨j, rfl, hj⟩ := hg x (by simp)
    have ih := zeroG_getD g (o.set j 0) (by rw [List.length_set]; exact hl) (fun y hy => hg y (List.mem_cons_of_mem _ hy)) i hi
    have e : zeroG o ((j : Int) :: g) = zeroG (o.set j 0) g := by unfold zeroG; rw [List.foldl_cons, Int.toNat_natCast]
    rw [e, ih, getD_set _ _ _ _ (by omega)]
    by_cases hm : (i : Int) ∈ g
    · rw [if_pos hm, if_pos (List.mem_cons_of_mem _ hm)]
    · rw [if_neg hm]
      by_cases hij : j = i
      · subst hij
        rw [if_pos rfl, if_pos (by simp)]
      · rw [if_neg hij, if_neg (by simp [hm]; omega)]
theorem list_getD {n : Nat} {a b : List Int} (ha : a.length = n) (hb : b.length = n) (h : ∀ i : Nat, i < n → a.getD i 0 = b.getD i 0) : a = b := by
  apply List.ext_getElem (by omega)
  intro i h1 h2
  have := h i (by omega)
  simpa [List.getD, h1, h2] using this
theorem zeroG_init {n : Nat} {g : List Int} (hg : InN n g) : zeroG (List.replicate n (-1)) g = rkInit n g := by
  refine list_getD (n := n) (by rw [zeroG_len]; simp) (rkInit_len n g) fun i hi => ?_
  rw [zeroG_getD g _ (by simp) hg i hi, rkInit_at hi]
  have : (List.replicate n (-1 : Int)).getD i 0 = -1 := by simp [List.getD, hi]
  rw [this]
  unfold hasI
  by_cases h : (i : Int) ∈ g
  · rw [if_pos h, if_pos (by simpa using h)]
  · rw [if_neg h, if_neg (by simpa using h)]
theorem zeroG_next {g o : List Int} {k : Nat} (h : k < g.length) : zeroG o (g.take (k + 1)) = (zeroG o (g.take k)).set (g.getD k 0).toNat 0 := by
  unfold zeroG
  rw [List.take_succ_eq_append_getElem h, List.foldl_append]
  simp [List.getD, h]

section
variable {n : Nat} {ss : List I3} {g : List Int}
/-- After j places of a sweep that began with o. -/
structure SwAt (n : Nat) (ss : List I3) (g o : List Int) (j : Nat) (c : Bool) (o' : List Int) : Prop where
  rk : RK n ss g o'
  up : Up n o'
  off : c = false → o' = o ∧ ∀ i : Nat, i < j → o.getD i 0 < 0 → nextL ss i = [] ∨ negAny (nextL ss i) o = true
  on : c = true → negs o' < negs o
theorem sw_zero {o : List Int} (h : RK n ss g o) (hu : Up n o) : SwAt n ss g o 0 false o := ⟨h, hu, fun _ => ⟨rfl, fun i hi => by omega⟩, fun h => by cases h⟩
theorem sw_skip {o o' : List Int} {j : Nat} {c : Bool} (h : SwAt n ss g o j c o') (hs : 0 ≤ o'.getD j 0 ∨ nextL ss j = [] ∨ negAny (nextL ss j) o' = true) : SwAt n ss g o (j + 1) c o' := by
  refine ⟨h.rk, h.up, fun hc => ?_, h.on⟩
  obtain ⟨rfl, h2⟩ := h.off hc
  refine ⟨rfl, fun i hi h0 => ?_⟩
  by_cases hij : i = j
  · subst hij
    rcases hs with h1 | h1
    · omega
    · exact h1
  · exact h2 i (by omega) h0
theorem sw_val {o' : List Int} (h : Up n o') (hl : o'.length = n) {j : Nat} (hne : nextL ss j ≠ []) (hneg : negAny (nextL ss j) o' = false) : rkVal (nextL ss j) o' ≤ (n : Int) - negs o' + 1 := by
  have := negs_le o'
  exact rkVal_le (by omega) fun k _ => h.at_ k
theorem sw_put {o o' : List Int} {j : Nat} {c : Bool} (hs : StepsN n ss) (h : SwAt n ss g o j c o') (hj : j < n) (h0 : o'.getD j 0 < 0) (hne : nextL ss j ≠ []) (hneg : negAny (nextL ss j) o' = false) :
    SwAt n ss g o (j + 1) true (o'.set j (rkVal (nextL ss j) o')) := by
  have hl := h.rk.len
  have hv := rkVal_pos hne hneg
  have hn := negs_set (o := o') (i := j) (x := rkVal (nextL ss j) o') (by omega) h0 hv
  refine ⟨rk_set h.rk hs hj h0 hne hneg, up_set h.up hl hj h0 hv (sw_val h.up hl hne hneg), (fun hc => by cases hc), fun _ => ?_⟩
  cases c with
  | true => have := h.on rfl; omega
  | false => rw [(h.off rfl).1] at hn; rw [(h.off rfl).1]; omega
theorem sw_end {o o' : List Int} (h : SwAt n ss g o n false o') : RkStable n ss o' := by
  obtain ⟨rfl, h2⟩ := h.off rfl
  exact fun i hi h0 => h2 i hi h0
end

/-- The number of a state, as it grows. -/
def pfR (o nx : List Int) (q : Nat) : Int := (nx.take q).foldl (fun m k => max m (atI o k + 1)) (-1)
theorem pfR_next {o nx : List Int} {q : Nat} (h : q < nx.length) : pfR o nx (q + 1) = max (pfR o nx q) (atI o (nx.getD q 0) + 1) := by
  unfold pfR
  rw [List.take_succ_eq_append_getElem h, List.foldl_append]
  simp [List.getD, h]
theorem pfR_all {o nx : List Int} (hne : nx ≠ []) (hneg : negAny nx o = false) : pfR o nx nx.length = rkVal nx o := by
  unfold pfR
  rw [List.take_length]
  exact rk_prog hne hneg
theorem pfR_le {o nx : List Int} {M : Int} (hM : -1 ≤ M + 1) (h : ∀ k, atI o k ≤ M) : ∀ q, q ≤ nx.length → pfR o nx q ≤ M + 1
  | 0, _ => by unfold pfR; simpa using hM
  | q + 1, hq => by
    rw [pfR_next (nx := nx) (q := q) (by omega)]
    have := pfR_le (nx := nx) hM h q (by omega)
    have := h (nx.getD q 0)
    omega
theorem pfR_ge {o nx : List Int} : ∀ q, q ≤ nx.length → -1 ≤ pfR o nx q
  | 0, _ => by unfold pfR; simp
  | q + 1, hq => by
    rw [pfR_next (nx := nx) (q := q) (by omega)]
    have := pfR_ge (o := o) (nx := nx) q (by omega)
    omega
def negAt (o nx : List Int) (q : Nat) : Bool := decide (atI o (nx.getD q 0) < 0)
theorem negAny_any (nx o : List Int) : anyR nx.length (negAt o nx) = negAny nx o := by
  unfold anyR negAny
  rw [Bool.eq_iff_iff, List.any_eq_true, List.any_eq_true]
  constructor
  · rintro ⟨q, hq, h⟩
    have hq := List.mem_range.1 hq
    exact ⟨nx.getD q 0, getD_mem hq, h⟩
  · rintro ⟨k, hk, h⟩
    obtain ⟨q, hq, rfl⟩ := List.getElem_of_mem hk
    refine ⟨q, List.mem_range.2 hq, ?_⟩
    unfold negAt
    simpa [List.getD, hq] using h
/-- A state that has no number is none of those that all have one. -/
theorem next_other {o nx : List Int} {j q : Nat} (hneg : negAny nx o = false) (h0 : o.getD j 0 < 0) (hq : q < nx.length) (m : Int) (hj : j < o.length) : atI (o.set j m) (nx.getD q 0) = atI o (nx.getD q 0) ∧ 0 ≤ atI o (nx.getD q 0) := by
  have h1 := neg_at hneg (getD_mem hq)
  refine ⟨?_, h1⟩
  unfold atI at h1 ⊢
  rw [getD_set _ _ _ _ hj]
  split
  · rename_i e
    rw [← e] at h1
    omega
  · rfl

end Go.Proofs.Ytlgdmafgbmnjdaa
