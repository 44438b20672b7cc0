/- Systems: rankings. Plain law: what the program's sweeps and the reference's rounds compute is one list. -/
import Derived.Test.YtlgdmafgbmnjdaaSReach
import Derived.Test.YtlgdmafgbmnjdaaSNext
import Derived.Test.YtlgdmafgbmnjdaaHas
set_option linter.unusedVariables false
namespace Go.Proofs.Ytlgdmafgbmnjdaa

/-- The number at a place that is told as a number. -/
def atI (o : List Int) (k : Int) : Int := o.getD k.toNat 0

/-- One more than the greatest number of the next ones. -/
def rkVal (nx o : List Int) : Int := nx.foldl (fun m k => if atI o k < m then m else atI o k) (-1) + 1
def negAny (nx o : List Int) : Bool := nx.any fun k => decide (atI o k < 0)
/-- The reference's number of a state. -/
def rkOf (nx o : List Int) : Int := if negAny nx o then -1 else if nx.isEmpty then -1 else rkVal nx o

theorem negAny_congr {nx o o' : List Int} (h : ∀ k ∈ nx, atI o k = atI o' k) : negAny nx o = negAny nx o' := by
  unfold negAny
  rw [Bool.eq_iff_iff, List.any_eq_true, List.any_eq_true]
  constructor
  · rintro ⟨k, hk, h1⟩; exact ⟨k, hk, by rw [← h k hk]; exact h1⟩
  · rintro ⟨k, hk, h1⟩; exact ⟨k, hk, by rw [h k hk]; exact h1⟩
theorem fold_rk_congr {o o' : List Int} : ∀ {nx : List Int} (m : Int), (∀ k ∈ nx, atI o k = atI o' k) → nx.foldl (fun m k => if atI o k < m then m else atI o k) m = nx.foldl (fun m k => if atI o' k < m then m else atI o' k) m
  | [], _, _ => rfl
  | k :: nx, m, h => by
    rw [List.foldl_cons, List.foldl_cons, h k (by simp)]
    exact fold_rk_congr _ fun j hj => h j (List.mem_cons_of_mem _ hj)
theorem rkVal_congr {nx o o' : List Int} (h : ∀ k ∈ nx, atI o k = atI o' k) : rkVal nx o = rkVal nx o' := by
  unfold rkVal
  rw [fold_rk_congr _ h]
theorem fold_rk_ge {o : List Int} : ∀ (nx : List Int) (m : Int), m ≤ nx.foldl (fun m k => if atI o k < m then m else atI o k) m
  | [], m => Int.le_refl _
  | k :: nx, m => by
    rw [List.foldl_cons]
    refine Int.le_trans ?_ (fold_rk_ge nx _)
    split <;> omega
theorem rkVal_pos {nx o : List Int} (h : nx ≠ []) (h0 : negAny nx o = false) : 0 ≤ rkVal nx o := by
  cases nx with
  | nil => exact absurd rfl h
  | cons k nx =>
    unfold negAny at h0
    rw [List.any_eq_false] at h0
    have hk := h0 k (by simp)
    have hk : 0 ≤ atI o k := by simpa using hk
    unfold rkVal
    rw [List.foldl_cons]
    have := fold_rk_ge (o := o) nx (if atI o k < -1 then -1 else atI o k)
    rw [if_neg (show ¬ atI o k < -1 by omega)] at this ⊢
    omega

section
variable (n : Nat) (ss : List I3) (g : List Int)

/-- What both ways keep true of the numbers. -/
structure RK (o : List Int) : Prop where
  len : o.length = n
  low : ∀ i : Nat, -1 ≤ o.getD i 0
  goal : ∀ i : Nat, i < n → (i : Int) ∈ g → o.getD i 0 = 0
  hist : ∀ i : Nat, i < n → (i : Int) ∉ g → 0 ≤ o.getD i 0 → nextL ss i ≠ [] ∧ negAny (nextL ss i) o = false ∧ o.getD i 0 = rkVal (nextL ss i) o
  sound : ∀ c : List Int, (∀ i : Nat, i < n → ((i : Int) ∈ g → c.getD i 0 = 0) ∧ ((i : Int) ∉ g → nextL ss i ≠ [] → negAny (nextL ss i) c = false → c.getD i 0 = rkVal (nextL ss i) c)) →
    ∀ i : Nat, i < n → 0 ≤ o.getD i 0 → c.getD i 0 = o.getD i 0

def RkStable (o : List Int) : Prop := ∀ i : Nat, i < n → o.getD i 0 < 0 → nextL ss i = [] ∨ negAny (nextL ss i) o = true
end

section
variable {n : Nat} {ss : List I3} {g : List Int} {o : List Int}

theorem getD_set (o : List Int) (i j : Nat) (x : Int) (h : i < o.length) : (o.set i x).getD j 0 = if i = j then x else o.getD j 0 := by
  simp only [List.getD, List.getElem?_set]
  split
  · rename_i e; subst e; simp [h]
  · rfl

theorem next_nat (hs : StepsN n ss) {i : Nat} {k : Int} (h : k ∈ nextL ss i) : ∃ j : Nat, k = (j : Int) ∧ j < n := by
  unfold nextL at h
  rw [List.mem_map] at h
  obtain ⟨s, h1, rfl⟩ := h
  obtain ⟨a, b, _, e, _, hb⟩ := hs s (List.mem_filter.1 h1).1
  exact ⟨b, e, hb⟩

theorem rk_closed (h : RK n ss g o) (hst : RkStable n ss o) : ∀ i : Nat, i < n → ((i : Int) ∈ g → o.getD i 0 = 0) ∧ ((i : Int) ∉ g → nextL ss i ≠ [] → negAny (nextL ss i) o = false → o.getD i 0 = rkVal (nextL ss i) o) := by
  intro i hi
  refine ⟨h.goal i hi, fun hg hne hneg => ?_⟩
  by_cases h0 : 0 ≤ o.getD i 0
  · exact (h.hist i hi hg h0).2.2
  · rcases hst i hi (by omega) with e | e
    · exact absurd e hne
    · rw [e] at hneg; cases hneg

theorem getD_ge {o : List Int} {n : Nat} (h : o.length = n) {i : Nat} (hi : n ≤ i) : o.getD i 0 = 0 := by
  simp [List.getD, List.getElem?_eq_none (show o.length ≤ i by omega)]

theorem rk_unique {a b : List Int} (ha : RK n ss g a) (hsa : RkStable n ss a) (hb : RK n ss g b) (hsb : RkStable n ss b) : a = b := by
  have hl : a.length = b.length := by rw [ha.len, hb.len]
  apply List.ext_getElem hl
  intro i h1 h2
  have hi : i < n := by have := ha.len; omega
  have ea : a[i] = a.getD i 0 := by simp [List.getD, h1]
  have eb : b[i] = b.getD i 0 := by simp [List.getD, h2]
  rw [ea, eb]
  by_cases h0 : 0 ≤ a.getD i 0
  · exact (ha.sound b (rk_closed hb hsb) i hi h0).symm
  · by_cases h3 : 0 ≤ b.getD i 0
    · exact hb.sound a (rk_closed ha hsa) i hi h3
    · have := ha.low i; have := hb.low i; omega

theorem neg_at {nx o : List Int} (h : negAny nx o = false) {k : Int} (hk : k ∈ nx) : 0 ≤ atI o k := by
  unfold negAny at h
  rw [List.any_eq_false] at h
  simpa using h k hk

/-- A state whose next ones have all got numbers gets its own. -/
theorem rk_set (h : RK n ss g o) (hs : StepsN n ss) {i : Nat} (hi : i < n) (h0 : o.getD i 0 < 0) (hne : nextL ss i ≠ []) (hneg : negAny (nextL ss i) o = false) :
    RK n ss g (o.set i (rkVal (nextL ss i) o)) := by
  have hlen := h.len
  have hv := rkVal_pos hne hneg
  have hkeep : ∀ nx : List Int, negAny nx o = false → (∀ k ∈ nx, ∃ j : Nat, k = (j : Int) ∧ j < n) → ∀ k ∈ nx, atI o k = atI (o.set i (rkVal (nextL ss i) o)) k := by
    intro nx hnx hin k hk
    obtain ⟨j, rfl, hj⟩ := hin k hk
    have h1 := neg_at hnx hk
    unfold atI at h1 ⊢
    rw [Int.toNat_natCast] at h1 ⊢
    rw [getD_set _ _ _ _ (by omega), if_neg (by intro e; subst e; omega)]
  have hig : (i : Int) ∉ g := fun hg => by have := h.goal i hi hg; omega
  constructor
  · simp [hlen]
  · intro j
    rw [getD_set _ _ _ _ (by omega)]
    split
    · omega
    · exact h.low j
  · intro j hj hg
    rw [getD_set _ _ _ _ (by omega), if_neg (by intro e; subst e; exact hig hg)]
    exact h.goal j hj hg
  · intro j hj hg h1
    rw [getD_set _ _ _ _ (by omega)] at h1 ⊢
    by_cases e : i = j
    · subst e
      have hk := hkeep _ hneg (fun k hk => next_nat hs hk)
      rw [if_pos rfl]
      exact ⟨hne, by rw [← negAny_congr hk]; exact hneg, rkVal_congr hk⟩
    · rw [if_neg e] at h1 ⊢
      obtain ⟨a1, a2, a3⟩ := h.hist j hj hg h1
      have hk := hkeep _ a2 (fun k hk => next_nat hs hk)
      exact ⟨a1, by rw [← negAny_congr hk]; exact a2, by rw [← rkVal_congr hk]; exact a3⟩
  · intro c hc j hj h1
    rw [getD_set _ _ _ _ (by omega)] at h1 ⊢
    by_cases e : i = j
    · subst e
      rw [if_pos rfl]
      have hk : ∀ k ∈ nextL ss i, atI o k = atI c k := by
        intro k hk
        obtain ⟨j, rfl, hj⟩ := next_nat hs hk
        have h2 := neg_at hneg hk
        unfold atI at h2 ⊢
        rw [Int.toNat_natCast] at h2 ⊢
        exact (h.sound c hc j hj h2).symm
      rw [(hc i hi).2 hig hne (by rw [← negAny_congr hk]; exact hneg), rkVal_congr hk]
    · rw [if_neg e] at h1 ⊢
      exact h.sound c hc j hj h1

/-- The first numbers: nought for goals. -/
def rkInit (n : Nat) (g : List Int) : List Int := (List.range n).map fun (i : Nat) => if hasI g (i : Int) then 0 else -1
theorem rkInit_at {n : Nat} {g : List Int} {i : Nat} (hi : i < n) : (rkInit n g).getD i 0 = if hasI g (i : Int) then 0 else -1 := by
  simp [rkInit, List.getD, hi]
theorem rk_init : RK n ss g (rkInit n g) := by
  have hl : (rkInit n g).length = n := by simp [rkInit]
  have hd : ∀ i : Nat, 0 ≤ (rkInit n g).getD i 0 → i < n → (i : Int) ∈ g := by
    intro i h hi
    rw [rkInit_at hi] at h
    split at h
    · rename_i e; simpa [hasI] using e
    · omega
  constructor
  · exact hl
  · intro i
    by_cases hi : i < n
    · rw [rkInit_at hi]; split <;> omega
    · rw [getD_ge hl (by omega)]; omega
  · intro i hi hg
    rw [rkInit_at hi, if_pos (by simpa [hasI] using hg)]
  · intro i hi hg h
    exact absurd (hd i h hi) hg
  · intro c hc i hi h
    have hg := hd i h hi
    rw [(hc i hi).1 hg, rkInit_at hi, if_pos (by simpa [hasI] using hg)]

/-- The reference's round: the numbers of the round before are read. -/
def jacTo (ss : List I3) (r : List Int) : Nat → List Int
  | 0 => r
  | j + 1 => if r.getD j 0 < 0 then (jacTo ss r j).set j (rkOf (nextL ss (j : Int)) r) else jacTo ss r j
def ranksR (l : Sys) (g : List Int) : Nat → List Int
  | 0 => rkInit l.states.length g
  | k + 1 => jacTo l.steps (ranksR l g k) l.states.length
def ranksL (l : Sys) (g : List Int) : List Int := ranksR l g l.states.length

def negs (o : List Int) : Nat := (o.filter fun x => decide (x < 0)).length
theorem negs_le (o : List Int) : negs o ≤ o.length := List.length_filter_le _ _

theorem list_self {o : List Int} {i : Nat} (h : i < o.length) : o.set i (o.getD i 0) = o := by
  apply List.ext_getElem (by simp)
  intro j h1 h2
  rw [List.getElem_set]
  split
  · rename_i e; subst e; simp [List.getD, h]
  · rfl
theorem negs_set : ∀ {o : List Int} {i : Nat} {x : Int}, i < o.length → o.getD i 0 < 0 → 0 ≤ x → negs (o.set i x) + 1 = negs o
  | [], i, x, h, _, _ => by simp at h
  | y :: o, 0, x, _, h0, hx => by
    have h0 : y < 0 := by simpa using h0
    simp [negs, h0, show ¬ x < 0 by omega]
  | y :: o, i + 1, x, h, h0, hx => by
    have := negs_set (o := o) (i := i) (x := x) (by simpa using h) (by simpa using h0) hx
    unfold negs at this ⊢
    rw [List.set_cons_succ, List.filter_cons, List.filter_cons]
    split
    · rw [List.length_cons, List.length_cons]; omega
    · exact this

/-- After j places of a round: still good; the numbers that the round read have stayed; either nothing has turned, and none of the j could, or fewer are without a number. -/
structure JacAt (n : Nat) (ss : List I3) (g r : List Int) (j : Nat) (o : List Int) : Prop where
  rk : RK n ss g o
  kept : ∀ i : Nat, 0 ≤ r.getD i 0 → o.getD i 0 = r.getD i 0
  rest : ∀ i : Nat, j ≤ i → o.getD i 0 = r.getD i 0
  turn : (o = r ∧ ∀ i : Nat, i < j → r.getD i 0 < 0 → nextL ss i = [] ∨ negAny (nextL ss i) r = true) ∨ negs o < negs r

theorem jac_zero (h : RK n ss g o) : JacAt n ss g o 0 o := ⟨h, fun _ _ => rfl, fun _ _ => rfl, .inl ⟨rfl, fun i hi => by omega⟩⟩
theorem jac_step {r : List Int} {j : Nat} (hr : RK n ss g r) (hs : StepsN n ss) (hj : j < n) (h : JacAt n ss g r j o) :
    JacAt n ss g r (j + 1) (if r.getD j 0 < 0 then o.set j (rkOf (nextL ss (j : Int)) r) else o) := by
  have hlen := h.rk.len
  by_cases h0 : r.getD j 0 < 0
  · rw [if_pos h0]
    have hoj := h.rest j (Nat.le_refl _)
    by_cases hok : nextL ss j = [] ∨ negAny (nextL ss j) r = true
    · have hv : rkOf (nextL ss (j : Int)) r = -1 := by
        unfold rkOf
        rcases hok with e | e
        · rw [e]; simp
        · rw [e]; rfl
      have hl := hr.low j
      have hsame : o.set j (-1) = o := by
        have : (-1 : Int) = o.getD j 0 := by omega
        rw [this]
        exact list_self (by omega)
      rw [hv, hsame]
      refine ⟨h.rk, h.kept, fun i hi => h.rest i (by omega), ?_⟩
      rcases h.turn with ⟨e, ht⟩ | ht
      · refine .inl ⟨e, fun i hi h1 => ?_⟩
        by_cases hij : i = j
        · subst hij; exact hok
        · exact ht i (by omega) h1
      · exact .inr ht
    · have hne : nextL ss j ≠ [] := fun e => hok (.inl e)
      have hneg : negAny (nextL ss j) r = false := by
        rw [Bool.eq_false_iff]; exact fun e => hok (.inr e)
      have hk : ∀ k ∈ nextL ss j, atI r k = atI o k := by
        intro k hk
        have := neg_at hneg hk
        exact (h.kept _ this).symm
      have hv : rkOf (nextL ss (j : Int)) r = rkVal (nextL ss j) o := by
        unfold rkOf
        rw [hneg, if_neg Bool.false_ne_true, if_neg (by simpa using hne), rkVal_congr hk]
      have hneg' : negAny (nextL ss j) o = false := by rw [← negAny_congr hk]; exact hneg
      rw [hv]
      have hpos := rkVal_pos hne hneg'
      refine ⟨rk_set h.rk hs hj (by omega) hne hneg', fun i hi => ?_, fun i hi => ?_, .inr ?_⟩
      · rw [getD_set _ _ _ _ (by omega), if_neg (by intro e; subst e; omega)]
        exact h.kept i hi
      · rw [getD_set _ _ _ _ (by omega), if_neg (by omega)]
        exact h.rest i (by omega)
      · have := negs_set (o := o) (i := j) (by omega) (by omega) hpos
        rcases h.turn with ⟨e, _⟩ | ht
        · rw [e] at this ⊢; omega
        · omega
  · rw [if_neg h0]
    refine ⟨h.rk, h.kept, fun i hi => h.rest i (by omega), ?_⟩
    rcases h.turn with ⟨e, ht⟩ | ht
    · refine .inl ⟨e, fun i hi h1 => ?_⟩
      by_cases hij : i = j
      · subst hij; exact absurd h1 h0
      · exact ht i (by omega) h1
    · exact .inr ht
theorem jac_at {r : List Int} (hr : RK n ss g r) (hs : StepsN n ss) : ∀ j, j ≤ n → JacAt n ss g r j (jacTo ss r j)
  | 0, _ => jac_zero hr
  | j + 1, hj => jac_step hr hs (by omega) (jac_at hr hs j (by omega))

theorem stable_jac {r : List Int} (h : RK n ss g r) (hs : StepsN n ss) (hst : RkStable n ss r) : jacTo ss r n = r := by
  have : ∀ j, j ≤ n → jacTo ss r j = r := by
    intro j
    induction j with
    | zero => intro _; rfl
    | succ j ih =>
      intro hj
      rw [jacTo, ih (by omega)]
      split
      · rename_i h0
        have hv : rkOf (nextL ss (j : Int)) r = r.getD j 0 := by
          have hl := h.low j
          have h1 : r.getD j 0 = -1 := by omega
          rw [h1]
          unfold rkOf
          rcases hst j (by omega) h0 with e | e
          · rw [e]; simp
          · rw [e]; rfl
        rw [hv]
        exact list_self (by have := h.len; omega)
      · rfl
  exact this n (Nat.le_refl _)
end

theorem ranksR_rk {l : Sys} {g : List Int} (hs : StepsN l.states.length l.steps) : ∀ k, RK l.states.length l.steps g (ranksR l g k)
  | 0 => rk_init
  | k + 1 => (jac_at (ranksR_rk hs k) hs _ (Nat.le_refl _)).rk
theorem ranksR_or {l : Sys} {g : List Int} (hs : StepsN l.states.length l.steps) : ∀ k, RkStable l.states.length l.steps (ranksR l g k) ∨ negs (ranksR l g k) + k ≤ l.states.length
  | 0 => .inr (by have := negs_le (ranksR l g 0); have := (ranksR_rk (g := g) hs 0).len; omega)
  | k + 1 => by
    have hr := ranksR_rk (g := g) hs k
    rcases ranksR_or (g := g) hs k with h | h
    · left
      rw [ranksR, stable_jac hr hs h]
      exact h
    · rcases (jac_at hr hs _ (Nat.le_refl _)).turn with ⟨e, ht⟩ | ht
      · left
        have hst : RkStable l.states.length l.steps (ranksR l g k) := fun i hi h1 => ht i hi h1
        rw [ranksR, stable_jac hr hs hst]
        exact hst
      · right
        rw [ranksR]
        omega
theorem negs_zero {o : List Int} (h : negs o = 0) (i : Nat) (hi : i < o.length) : 0 ≤ o.getD i 0 := by
  unfold negs at h
  have h1 := List.eq_nil_of_length_eq_zero h
  rw [List.filter_eq_nil_iff] at h1
  have h2 := h1 (o.getD i 0) (by simp [List.getD, hi])
  simpa using h2
theorem ranksL_stable {l : Sys} {g : List Int} (hs : StepsN l.states.length l.steps) : RkStable l.states.length l.steps (ranksL l g) := by
  rcases ranksR_or (g := g) hs l.states.length with h | h
  · exact h
  · intro i hi h1
    have hl := (ranksR_rk (g := g) hs l.states.length).len
    have := negs_zero (o := ranksR l g l.states.length) (by omega) i (by omega)
    unfold ranksL at h1
    omega
theorem ranksL_rk {l : Sys} {g : List Int} (hs : StepsN l.states.length l.steps) : RK l.states.length l.steps g (ranksL l g) := ranksR_rk hs _
theorem ranks_done {l : Sys} {g o : List Int} (hs : StepsN l.states.length l.steps) (h : RK l.states.length l.steps g o) (hst : RkStable l.states.length l.steps o) : o = ranksL l g :=
  rk_unique h hst (ranksL_rk hs) (ranksL_stable hs)

/-- The program's way to the number: from -1 on, always one more. -/
theorem rk_fold {o : List Int} : ∀ (nx : List Int) (m : Int), nx.foldl (fun m k => max m (atI o k + 1)) (m + 1) = nx.foldl (fun m k => if atI o k < m then m else atI o k) m + 1
  | [], m => rfl
  | k :: nx, m => by
    rw [List.foldl_cons, List.foldl_cons, ← rk_fold nx]
    congr 1
    split <;> omega
theorem rk_prog {nx o : List Int} (hne : nx ≠ []) (hneg : negAny nx o = false) : nx.foldl (fun m k => max m (atI o k + 1)) (-1) = rkVal nx o := by
  cases nx with
  | nil => exact absurd rfl hne
  | cons k nx =>
    have h0 := neg_at hneg (k := k) (by simp)
    unfold rkVal
    rw [List.foldl_cons, List.foldl_cons, ← rk_fold nx, show (if atI o k < -1 then -1 else atI o k) = atI o k by rw [if_neg (by omega)]]
    congr 1
    omega

end Go.Proofs.Ytlgdmafgbmnjdaa
