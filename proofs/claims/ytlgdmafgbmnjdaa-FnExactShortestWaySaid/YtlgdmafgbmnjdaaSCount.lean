/- Ways counted: what both compute. No program is in sight. -/
import Derived.Test.YtlgdmafgbmnjdaaProg
import Derived.Test.YtlgdmafgbmnjdaaSWayB
import Derived.Test.YtlgdmafgbmnjdaaRepeat
set_option linter.unusedVariables false
namespace Go.Proofs.Ytlgdmafgbmnjdaa
open Go.RowKit

def minI (a b : Int) : Int := if a < b then a else b
def bump (counts nx : List Int) (s : I3) : List Int := nx.set s.1.toNat (minI (nx.getD s.1.toNat 0 + counts.getD s.2.2.toNat 0) 1000000001)
def stepC (ss : List I3) (counts : List Int) : List Int := ss.foldl (bump counts) (List.replicate counts.length 0)
def roundC (l : Sys) : Nat → List Int
  | 0 => List.replicate l.states.length 1
  | k + 1 => stepC l.steps (roundC l k)

def InC (xs : List Int) : Prop := ∀ x ∈ xs, 0 ≤ x ∧ x ≤ 1000000001
theorem InC.at_ {xs : List Int} (h : InC xs) (i : Nat) : 0 ≤ xs.getD i 0 ∧ xs.getD i 0 ≤ 1000000001 := by
  by_cases hi : i < xs.length
  · have : xs.getD i 0 = xs[i] := by simp [List.getD, hi]
    rw [this]
    exact h _ (List.getElem_mem hi)
  · have : xs.getD i 0 = 0 := by simp [List.getD, List.getElem?_eq_none (by omega : xs.length ≤ i)]
    rw [this]
    omega
theorem minI_in {a : Int} (h : 0 ≤ a) : 0 ≤ minI a 1000000001 ∧ minI a 1000000001 ≤ 1000000001 := by
  unfold minI
  split <;> omega
theorem bump_in {counts nx : List Int} (s : I3) (hc : InC counts) (hn : InC nx) : InC (bump counts nx s) := by
  intro x hx
  unfold bump at hx
  rcases List.mem_or_eq_of_mem_set hx with h | h
  · exact hn x h
  · rw [h]
    have a := hn.at_ s.1.toNat
    have b := hc.at_ s.2.2.toNat
    exact minI_in (by omega)
theorem bump_len (counts nx : List Int) (s : I3) : (bump counts nx s).length = nx.length := by simp [bump]
theorem fold_in {counts : List Int} (hc : InC counts) : ∀ (ss : List I3) (nx : List Int), InC nx → InC (ss.foldl (bump counts) nx)
  | [], nx, h => h
  | s :: r, nx, h => fold_in hc r _ (bump_in s hc h)
theorem fold_len (counts : List Int) : ∀ (ss : List I3) (nx : List Int), (ss.foldl (bump counts) nx).length = nx.length
  | [], nx => rfl
  | s :: r, nx => by rw [List.foldl_cons, fold_len counts r, bump_len]
theorem fold_next {counts : List Int} {ss : List I3} {nx : List Int} {k : Nat} {s : I3} (h : ss[k]? = some s) : (ss.take (k + 1)).foldl (bump counts) nx = bump counts ((ss.take k).foldl (bump counts) nx) s := by
  obtain ⟨hl, e⟩ := List.getElem?_eq_some_iff.1 h
  rw [List.take_succ_eq_append_getElem hl, e, List.foldl_append]
  rfl
theorem rep_in (n : Nat) (x : Int) (h0 : 0 ≤ x) (h1 : x ≤ 1000000001) : InC (List.replicate n x) := by
  intro y hy
  rw [List.eq_of_mem_replicate hy]
  exact ⟨h0, h1⟩
theorem round_len (l : Sys) : ∀ k, (roundC l k).length = l.states.length
  | 0 => by simp [roundC]
  | k + 1 => by rw [roundC, stepC, fold_len, List.length_replicate, round_len l k]
theorem round_in (l : Sys) : ∀ k, InC (roundC l k)
  | 0 => rep_in _ _ (by omega) (by omega)
  | k + 1 => fold_in (round_in l k) _ _ (rep_in _ _ (by omega) (by omega))

def countOk (l : Sys) (p len : Int) : Bool := okState l p && inB len 0 60 && !(decide (1000000000 < (roundC l len.toNat).getD p.toNat 0))
def countR (l : Sys) (p len : Int) : Int := if countOk l p len then (roundC l len.toNat).getD p.toNat 0 else 0

/-- The steps of a well-formed system are in range. -/
def StepsIn (l : Sys) : Prop := ∀ s ∈ l.steps, ∃ i j : Nat, s.1 = (i : Int) ∧ s.2.2 = (j : Int) ∧ i < l.states.length ∧ j < l.states.length
theorem allR_at {n : Nat} {p : Nat → Bool} (h : allR n p = true) {k : Nat} (hk : k < n) : p k = true := by
  unfold allR at h
  exact List.all_eq_true.1 h k (List.mem_range.2 hk)
theorem good_steps {l : Sys} (h : goodSys l = true) : StepsIn l := by
  intro s hs
  unfold goodSys at h
  simp only [Bool.and_eq_true] at h
  obtain ⟨i, hi, rfl⟩ := List.getElem_of_mem hs
  have h1 := allR_at h.2 hi
  unfold stepAt stepIn at h1
  simp only [Bool.and_eq_true] at h1
  have e : l.steps.getD i (0, 0, 0) = l.steps[i] := by simp [List.getD, hi]
  rw [e] at h1
  have a := inB_true h1.1.1
  have b := inB_true h1.1.2.2
  exact ⟨l.steps[i].1.toNat, l.steps[i].2.2.toNat, by omega, by omega, by omega, by omega⟩
theorem good_len {l : Sys} (h : goodSys l = true) : 1 ≤ l.states.length ∧ l.states.length ≤ 40 := by
  unfold goodSys at h
  simp only [Bool.and_eq_true] at h
  have := inB_true h.1
  exact ⟨by omega, by omega⟩

end Go.Proofs.Ytlgdmafgbmnjdaa
