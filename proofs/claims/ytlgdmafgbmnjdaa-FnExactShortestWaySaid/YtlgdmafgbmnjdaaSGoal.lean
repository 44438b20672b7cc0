/- Systems: goals, walked; the steps from a state. -/
import Derived.Test.YtlgdmafgbmnjdaaProg
import Derived.Test.YtlgdmafgbmnjdaaSIntF
import Derived.Test.YtlgdmafgbmnjdaaSNext
import Derived.Test.YtlgdmafgbmnjdaaSCount
set_option linter.unusedVariables false
namespace Go.Proofs.Ytlgdmafgbmnjdaa
open Go.RowKit
open Go.Sort (grow)

def goalsB (l : Sys) (g : List Int) : Bool := rising 0 ((l.states.length : Int) - 1) g
def okGoals (l : Sys) (g : List Int) : Bool := goodSys l && goalsB l g

theorem goals_of {l : Sys} {g : List Int} (h : goalsB l g = true) : g.Pairwise (· < ·) ∧ ∀ x ∈ g, ∃ i : Nat, x = (i : Int) ∧ i < l.states.length := by
  unfold goalsB rising at h
  have hat : ∀ k, k < g.length → riseAt 0 ((l.states.length : Int) - 1) g k = true := fun k hk => allR_at h hk
  constructor
  · have hst : ∀ k, k + 1 < g.length → g.getD k 0 < g.getD (k + 1) 0 := by
      intro k hk
      have := hat (k + 1) hk
      unfold riseAt at this
      simp at this
      simpa [List.getD] using this.2
    rw [List.pairwise_iff_getElem]
    have hall : ∀ d i, i + d + 1 < g.length → g.getD i 0 < g.getD (i + d + 1) 0 := by
      intro d
      induction d with
      | zero => intro i hi; exact hst i hi
      | succ d ih =>
        intro i hi
        have a := ih i (by omega)
        have b := hst (i + d + 1) (by omega)
        have e : i + (d + 1) + 1 = i + d + 1 + 1 := by omega
        rw [e]
        omega
    intro i j hi hj hij
    have := hall (j - i - 1) i (by omega)
    rw [show i + (j - i - 1) + 1 = j by omega] at this
    simpa [List.getD, hi, hj] using this
  · intro x hx
    obtain ⟨k, hk, rfl⟩ := List.getElem_of_mem hx
    have := hat k hk
    unfold riseAt at this
    rw [Bool.and_eq_true] at this
    have hb := inB_true this.1
    have e : g.getD k 0 = g[k] := by simp [List.getD, hk]
    rw [e] at hb
    exact ⟨g[k].toNat, by omega, by omega⟩

set_option maxRecDepth 100000 in
set_option maxHeartbeats 2000000 in
theorem isGoals_any (v : Value) (l : Sys) (G : Option Addr) (cg : Nat) (g : List Int) (w : World) (hs : SmallSys l) (hv : RSys w v l) (hn : g.length ≤ 16777216) (hG : Cells w G (ints g)) :
    Calls Try.prog 39 #[v, .slice G g.length cg] w fun e w' => e = .returned (.bool (okGoals l g)) ∧ Below w.heap.size w w' := by
  have hb1 : ∀ o, Below w.heap.size w (w.alloc o) := fun o => (Below.refl _ _).alloc (Nat.le_refl _) o
  have HV := Lib.hid (show ∀ W, Below w.heap.size w W → RSys W v l from fun W hb => hv.below hb)
  have HG := Lib.hid (show ∀ W, Below w.heap.size w W → Cells W G (ints g) from fun W hb => hG.below hb)
  have HB := Lib.hid hb1
  obtain ⟨sv, tv, rfl, hsv, htv⟩ := hv
  obtain ⟨A, c, rfl, _⟩ := hsv.form
  obtain ⟨B, d, rfl, _, _⟩ := htv
  clear hsv hb1 hG
  have H1 := Lib.hid (fun o => isSystem_any _ l (w.alloc o) hs (HV.out _ (HB.out o)))
  cases hg : goodSys l
  · have E1 := Lib.hid (show okGoals l g = false by simp [okGoals, hg])
    rw [hg] at H1
    clear hg
    go_enter Try.func39, Try.ntmps39
    go_wp2_with fail
    refine (H1.out _).mono ?_
    rintro e w1 ⟨rfl, hw1⟩
    have HZ := Lib.hid ((HB.out _).trans (hw1.mono (HB.out _).size))
    clear hw1
    go_wp2_with fail
    go_ret
    exact ⟨by rw [E1.out]; rfl, HZ.out⟩
  · rw [hg] at H1
    obtain ⟨l1, l2⟩ := good_len hg
    have E1 := Lib.hid (show okGoals l g = goalsB l g by simp [okGoals, hg])
    clear hg
    go_enter Try.func39, Try.ntmps39
    go_wp2_with fail
    refine (H1.out _).mono ?_
    rintro e w1 ⟨rfl, hw1⟩
    obtain ⟨bx, _⟩ := one_box hw1
    have x0 : w1.cell? ⟨w.heap.size, 0, none⟩ = some (.slice A l.states.length c) := cell_of_row _ _ _ _ _ _ bx
    have hz1 := (HB.out _).trans (hw1.mono (HB.out _).size)
    have HZ1 := Lib.hid hz1
    clear bx hw1 hz1
    go_wp2_with fail
    refine (isRising_any G cg g l.states.length w1 hn (by omega) (by omega) (HG.out w1 HZ1.out)).mono ?_
    rintro e w2 ⟨rfl, rfl⟩
    go_wp2_with fail
    go_ret
    exact ⟨by rw [E1.out]; rfl, HZ1.out⟩

set_option maxRecDepth 100000 in
set_option maxHeartbeats 2000000 in
theorem l10Goals_any (v : Value) (l : Sys) (G : Option Addr) (cg : Nat) (g : List Int) (w : World) (hs : SmallSys l) (hv : RSys w v l) (hn : g.length ≤ 16777216) (hG : Cells w G (ints g)) :
    Calls Try.prog 35 #[v, .slice G g.length cg] w fun e w' => e = .returned (.bool (goalsB l g)) ∧ Below w.heap.size w w' := by
  have hb1 : ∀ o, Below w.heap.size w (w.alloc o) := fun o => (Below.refl _ _).alloc (Nat.le_refl _) o
  have HG := Lib.hid (show ∀ W, Below w.heap.size w W → Cells W G (ints g) from fun W hb => hG.below hb)
  have HB := Lib.hid hb1
  obtain ⟨sv, tv, rfl, hsv, htv⟩ := hv
  obtain ⟨A, c, rfl, _⟩ := hsv.form
  obtain ⟨B, d, rfl, _, _⟩ := htv
  have hw1 := hs.1
  have hwr : IntKind.i64.wrap ((l.states.length : Int) - 1) = (l.states.length : Int) - 1 := IntWalk.i64_in _ (by omega)
  clear hsv hb1 hG hs
  go_enter Try.func35, Try.ntmps35
  go_wp2_with fail
  refine (l1Rising_any G cg g 0 ((l.states.length : Int) - 1) _ hn (HG.out _ (HB.out _))).mono ?_
  rintro e w2 ⟨rfl, hw2⟩
  have HZ := Lib.hid ((HB.out _).trans (hw2.mono (HB.out _).size))
  clear hw2
  go_wp2_with fail
  go_ret
  exact ⟨rfl, HZ.out⟩

end Go.Proofs.Ytlgdmafgbmnjdaa
