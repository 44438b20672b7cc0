/- Systems: the least states of loops; the reference walked. -/
import Derived.Test.YtlgdmafgbmnjdaaProg
import Derived.Test.YtlgdmafgbmnjdaaSReachW
import Derived.Test.YtlgdmafgbmnjdaaSAlways
import Derived.Test.YtlgdmafgbmnjdaaLoopL
set_option linter.unusedVariables false
namespace Go.Proofs.Ytlgdmafgbmnjdaa
open Go.RowKit
open Go.Sort (grow)

def loopsTo (l : Sys) (k : Nat) : List Int := (List.range k).map (loopAt l.states.length l.steps)
def lpsL (l : Sys) : List Int := if goodSys l then loopsTo l l.states.length else []
theorem loopsTo_len (l : Sys) (k : Nat) : (loopsTo l k).length = k := by simp [loopsTo]
theorem loopsTo_next (l : Sys) (k : Nat) : loopsTo l (k + 1) = loopsTo l k ++ [loopAt l.states.length l.steps k] := by simp [loopsTo, List.range_succ]
theorem lps_len {l : Sys} (hs : SmallSys l) : (lpsL l).length ≤ 16777216 := by
  unfold lpsL
  split
  · rw [loopsTo_len]; exact hs.1
  · simp

theorem downTo_step {p : Nat → Bool} {k e : Nat} (he : e < k) : downTo p k (k - e) = if p e then e else downTo p k (k - (e + 1)) := by
  rw [show k - e = (k - (e + 1)) + 1 by omega, downTo, show k - (k - (e + 1) + 1) = e by omega]

set_option maxRecDepth 100000 in
set_option maxHeartbeats 16000000 in
theorem specLoopsOf_any (v : Value) (l : Sys) (w : World) (hs : SmallSys l) (hv : RSys w v l) :
    Calls Try.prog 30 #[v] w fun e w' => ∃ r, e = .returned (.tuple #[r, .bool (goodSys l)]) ∧ w'.ownsRow w.heap.size 3 1 r (lpsL l).length (ints (lpsL l)) ∧ Below w.heap.size w w' := by
  obtain ⟨i0, hi, hz0, hz1, hz2⟩ := info_parts info_ni
  have HV := Lib.hid (show ∀ W, Below w.heap.size w W → RSys W v l from fun W hb => hv.below hb)
  obtain ⟨sv, tv, rfl, hsv, htv⟩ := hv
  obtain ⟨A, c, rfl, _⟩ := hsv.form
  obtain ⟨B, d, rfl, _, _⟩ := htv
  have hsn := hs.1
  clear hsv
  obtain ⟨W0, hW0⟩ : ∃ W0, W0 = ((w.alloc (.cells #[.slice A l.states.length c, .slice B l.steps.length d] 32)).alloc (.cells #[] 3)) := ⟨_, rfl⟩
  have hb0 : Below w.heap.size w W0 := by rw [hW0]; exact ((Below.refl _ _).alloc (Nat.le_refl _) _).alloc (by simp) _
  have hbx : W0.heap[w.heap.size]? = some (.cells #[.slice A l.states.length c, .slice B l.steps.length d] 32) := by rw [hW0]; exact (heap_alloc_old _ _ (by simp)).trans (heap_alloc_new _ _)
  have hown : W0.ownsRow (w.heap.size + 1) 3 1 (.slice (some ⟨w.heap.size + 1, 0, none⟩) 0 0) (loopsTo l 0).length (ints (loopsTo l 0)) := by
    rw [hW0]
    have h := owns_zero (w.alloc (.cells #[.slice A l.states.length c, .slice B l.steps.length d] 32)) 3
    rw [World.size_alloc] at h
    exact h
  have x0 : W0.cell? ⟨w.heap.size, 0, none⟩ = some (.slice A l.states.length c) := cell_of_row _ _ _ _ _ _ hbx
  have x1 : W0.cell? ⟨w.heap.size, 1, none⟩ = some (.slice B l.steps.length d) := cell_of_row _ _ _ _ _ _ hbx
  have HW := Lib.hid hW0
  have HB := Lib.hid hb0
  have HBX := Lib.hid hbx
  have HOWN := Lib.hid hown
  have H1 := Lib.hid (l10Good_any _ l W0 hs (HV.out _ hb0))
  clear hW0 hb0 hbx hown
  cases hg : goodSys l
  · have E1 := Lib.hid (show lpsL l = [] by unfold lpsL; rw [hg]; rfl)
    have E2 := Lib.hid hg
    rw [hg] at H1
    clear hg
    go_enter Try.func30, Try.ntmps30
    go_wp2_with fail
    rw [← HW.out]
    refine H1.out.mono ?_
    rintro e w1 ⟨rfl, hw1⟩
    have HO := Lib.hid (owns_mono (owns_below HOWN.out hw1 (Nat.le_refl _)) (Nat.le_succ w.heap.size))
    have HZ := Lib.hid (HB.out.trans (hw1.mono HB.out.size))
    clear hw1
    go_wp2_with fail
    go_ret2
    rw [E1.out]
    exact ⟨_, rfl, HO.out, HZ.out⟩
  obtain ⟨l1, l2⟩ := good_len hg
  have HGD := Lib.hid hg
  have E1 := Lib.hid (show lpsL l = loopsTo l l.states.length by unfold lpsL; rw [hg]; rfl)
  rw [hg] at H1
  clear hg
  go_enter Try.func30, Try.ntmps30
  go_wp2_with fail
  rw [← HW.out]
  refine H1.out.mono ?_
  rintro e w1 ⟨rfl, hw1⟩
  have HO := Lib.hid (owns_below HOWN.out hw1 (Nat.le_refl _))
  have HZ := Lib.hid (HB.out.trans (hw1.mono HB.out.size))
  have HBY := Lib.hid ((hw1.block w.heap.size (lt_of_cell x0)).trans HBX.out)
  clear hw1 x0 x1 HB HBX HOWN H1
  go_wp2_with fail
  go_loopw [4, 5] (fun u i wr => ∃ k : Nat, k ≤ l.states.length ∧ i = .int .i64 k ∧ wr.ownsRow (w.heap.size + 1) 3 1 u (loopsTo l k).length (ints (loopsTo l k)) ∧ Below w.heap.size w wr ∧ wr.heap[w.heap.size]? = some (.cells #[.slice A l.states.length c, .slice B l.steps.length d] 32))
    (fun _ i _ => l.states.length - (intOf i).toNat)
  case atStart => exact ⟨0, Nat.zero_le _, rfl, HO.out, HZ.out, HBY.out⟩
  case round =>
    clear HO HZ HBY
    obtain ⟨k, hk, rfl, hown, hbel, hbx⟩ := hrel
    obtain ⟨AO, cO, rfl, hown⟩ := owns_form hown
    have hlk := loopsTo_len l k
    have HNX := Lib.hid (loopsTo_next l k)
    have HO := Lib.hid hown
    have HB := Lib.hid hbel
    have HBX := Lib.hid hbx
    have p0 := cell_of_row wr w.heap.size 0 _ _ _ hbx
    have p1 := cell_of_row wr w.heap.size 1 _ _ _ hbx
    have HLK := Lib.hid hlk
    by_cases hlt : k < l.states.length
    · have HSP := Lib.hid (loop_spec (n := l.states.length) (ss := l.steps) k)
      have HRK := Lib.hid (fun W hW => l10Reach_any _ l k W hs HGD.out hlt (HV.out W hW))
      have HRL := Lib.hid (reach_len HGD.out hlt)
      have HLB := Lib.hid (fun e : Nat => show loopB l.states.length l.steps k e = (hasI (reachL l (k : Int)) (e : Int) && hasI (reachL l (e : Int)) (k : Int)) from rfl)
      have HDS := Lib.hid (fun (e : Nat) (he : e < k) => downTo_step (p := loopB l.states.length l.steps k) he)
      have HK := Lib.hid hlt
      have HREL := Lib.hid (fun (e : Nat) (he : e < l.states.length) => reach_len HGD.out he)
      have HREW := Lib.hid (fun (e : Nat) (he : e < l.states.length) W hW => l10Reach_any _ l e W hs HGD.out he (HV.out W hW))
      clear hown hbel hbx hlk p1
      obtain ⟨wo, hwo⟩ : ∃ wo, wo = wr := ⟨_, rfl⟩
      subst hwo
      generalize loopB l.states.length l.steps k = lb at *
      generalize loopsTo l k = lk at *
      have hkz : (k : Int) < 40 := by omega
      have hk0 : (0 : Int) ≤ (k : Int) := by omega
      have hll : lk.length ≤ 40 := by have := HLK.out; omega
      have hwo0 : w.heap.size < wo.heap.size := (Array.getElem?_eq_some_iff.1 HBX.out).1
      go_wp2_with fail
      clear p0
      go_loopw [6, 7] (fun m kk wi => ∃ (e : Nat) (z : Int), e ≤ k ∧ z = (e : Int) - 1 ∧ kk = .int .i64 z ∧ m = .int .i64 (downTo lb k (k - e) : Nat) ∧ Below wo.heap.size wo wi)
        (fun _ kk _ => (intOf kk + 1).toNat)
      case atStart => exact ⟨k, _, Nat.le_refl _, rfl, rfl, by rw [Nat.sub_self]; rfl, Below.refl _ _⟩
      case round =>
        obtain ⟨e, z, he, hz, rfl, rfl, hbi⟩ := hrel
        have HBi := Lib.hid (HB.out.trans (hbi.mono HB.out.size))
        have HXi := Lib.hid ((hbi.block w.heap.size hwo0).trans HBX.out)
        have p0 := cell_of_row wr w.heap.size 0 _ _ _ HXi.out
        have p1 := cell_of_row wr w.heap.size 1 _ _ _ HXi.out
        have HOi := Lib.hid (owns_below HO.out hbi (Nat.le_refl _))
        have HI := Lib.hid hbi
        clear hbi
        cases e with
        | zero =>
          obtain rfl : z = -1 := by omega
          have HM := Lib.hid (show ((downTo lb k (k - 0) : Nat) : Int) = loopAt l.states.length l.steps k from HSP.out)
          clear hz
          generalize downTo lb k (k - 0) = m at *
          go_wp2_with (at_builtin; refine wpList_append_own _ rfl _ _ 26 rfl (w.heap.size + 1) 3 i0 (.int .i64 0) 1 8 Try.underlying26 hi hz0 hz1 hz2 rfl (by decide) _ _ _ rfl (HOi.out.alloc _) ⟨wr.heap.size, 0, none⟩ 1 1 [.int .i64 (m : Int)] rfl rfl ?c1 ?c2 ?c3 ?c4 ?c5 ?_)
          case c1 => exact new_cell1 _ _ _ rfl
          case c2 => intro u hu; simp at hu; subst hu; rfl
          case c3 => unfold maxLen; omega
          case c4 => omega
          case c5 => have := HI.out.size; simp; omega
          intro v2 w2 hown2 hgrow2 _
          have hints : ints lk ++ [.int .i64 (m : Int)] = ints (loopsTo l (k + 1)) := by rw [HNX.out, ← HM.out]; simp [ints]
          have hlen2 : lk.length + 1 = (loopsTo l (k + 1)).length := by rw [HNX.out]; simp
          rw [hints, hlen2] at hown2
          have HO2 := Lib.hid hown2
          have hs1 := HI.out.size
          have HG2 := Lib.hid ((HBi.out.alloc HBi.out.size _).grown hgrow2 (by simp; omega) (fun q hq => by have := (HOi.out.lt q hq).1; omega))
          have HBX2 := Lib.hid ((hgrow2.block w.heap.size (by simp; omega) (fun e => by have := (HOi.out.lt _ e.symm).1; omega)).trans ((heap_alloc_old _ _ (by omega)).trans HXi.out))
          clear hown2 hgrow2 hints hlen2
          go_wp2_with fail
          go_roundw
          case rel => exact ⟨k + 1, by omega, by go_num, HO2.out, HG2.out, HBX2.out⟩
          case measure => simp [intOf]; omega
        | succ e =>
          obtain rfl : z = (e : Int) := by omega
          have hek : e < k := by omega
          have HST := Lib.hid (HDS.out e hek)
          have he0 : (0 : Int) ≤ (e : Int) := by omega
          have he1 : (e : Int) < 40 := by omega
          have HKE := Lib.hid hek
          have HLBE := Lib.hid (HLB.out e)
          clear hz he hek
          generalize downTo lb k (k - (e + 1)) = md at *
          go_wp2_with fail
          refine (HRK.out wr HBi.out).mono ?_
          rintro er w3 ⟨r1, rfl, hr1, hw3⟩
          obtain ⟨R1, rc1, rfl, hr1⟩ := owns_form hr1
          have hc1 := Cells.of_owns hr1
          have HH1 := Lib.hid (l1Has_any R1 rc1 (reachL l (k : Int)) (e : Int) w3 (by have := HRL.out; omega) hc1)
          have p0 := cell_below hw3 p0 (lt_of_cell p0)
          have p1 := cell_below hw3 p1 (lt_of_cell p1)
          have HI3 := Lib.hid (HI.out.trans (hw3.mono HI.out.size))
          have HB3 := Lib.hid (HBi.out.trans (hw3.mono HBi.out.size))
          clear hr1 hw3 hc1
          generalize reachL l (k : Int) = rk at *
          cases hh1 : hasI rk (e : Int)
          · have HF := Lib.hid (show downTo lb k (k - e) = md by rw [HST.out, HLBE.out, hh1, Bool.false_and, if_neg Bool.false_ne_true])
            rw [hh1] at HH1
            clear hh1
            go_wp2_with ((with_reducible refine HH1.out.mono ?_); rintro er w4 ⟨rfl, rfl⟩)
            go_roundw
            case rel => exact ⟨e, _, by have := HKE.out; omega, rfl, rfl, by rw [HF.out], HI3.out⟩
            case measure => simp [intOf] <;> omega
          · rw [hh1, Bool.true_and] at HLBE
            rw [hh1] at HH1
            clear hh1
            go_wp2_with ((with_reducible refine HH1.out.mono ?_); rintro er w4 ⟨rfl, rfl⟩)
            refine (HREW.out e (by have := HKE.out; have := HK.out; omega) w3 HB3.out).mono ?_
            rintro er w5 ⟨r2, rfl, hr2, hw5⟩
            obtain ⟨R2, rc2, rfl, hr2⟩ := owns_form hr2
            have hc2 := Cells.of_owns hr2
            have HH2 := Lib.hid (l1Has_any R2 rc2 (reachL l (e : Int)) (k : Int) w5 (by have := HREL.out e (by have := HKE.out; have := HK.out; omega); omega) hc2)
            have HI5 := Lib.hid (HI3.out.trans (hw5.mono HI3.out.size))
            clear hr2 hw5 hc2
            generalize reachL l (e : Int) = re at *
            cases hh2 : hasI re (k : Int)
            · have HF := Lib.hid (show downTo lb k (k - e) = md by rw [HST.out, HLBE.out, hh2, if_neg Bool.false_ne_true])
              rw [hh2] at HH2
              clear hh2
              go_wp2_with ((with_reducible refine HH2.out.mono ?_); rintro er w4 ⟨rfl, rfl⟩)
              go_roundw
              case rel => exact ⟨e, _, by have := HKE.out; omega, rfl, rfl, by rw [HF.out], HI5.out⟩
              case measure => simp [intOf] <;> omega
            · have HF := Lib.hid (show downTo lb k (k - e) = e by rw [HST.out, HLBE.out, hh2, if_pos rfl])
              rw [hh2] at HH2
              clear hh2
              go_wp2_with ((with_reducible refine HH2.out.mono ?_); rintro er w4 ⟨rfl, rfl⟩)
              go_roundw
              case rel => exact ⟨e, _, by have := HKE.out; omega, rfl, rfl, by rw [HF.out], HI5.out⟩
              case measure => simp [intOf] <;> omega
    · obtain rfl : k = l.states.length := by omega
      have HO2 := Lib.hid (owns_mono hown (Nat.le_succ w.heap.size))
      rw [← E1.out] at HO2 ⊢
      clear hown hbel hbx hlk p1
      have HG2 := HGD.out
      go_wp2_with fail
      go_ret2
      exact ⟨_, rfl, HO2.out, HB.out⟩

end Go.Proofs.Ytlgdmafgbmnjdaa
