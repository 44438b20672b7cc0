/- The reference's formula for two states whose marks differ: walked. -/
import Derived.Test.YtdgnhfhaaghoaaaGreatDoorProg
import Derived.Test.YtdgnhfhaaghoaaaGreatDoorJ11
import Derived.Test.YtdgnhfhaaghoaaaGreatDoorJ20
import Derived.Test.YtdgnhfhaaghoaaaGreatDoorJ6
set_option linter.unusedSimpArgs false
set_option linter.unusedVariables false
namespace Go.Proofs.YtdgnhfhaaghoaaaGreatDoor
open Go.RowKit

theorem l1Has_q (A : Option Addr) (c : Nat) (xs : List Int) (d : Int) (w : World) (hn : xs.length ≤ 16777216) (hA : Cells w A (ints xs)) :
    Calls Tryz.prog 151 #[.slice A xs.length c, .int .i64 d] w fun e w' => e = .returned (.bool (hasI xs d)) ∧ w' = w :=
  (l1Has_any A c xs d w hn hA).mono fun _ _ ⟨a, b⟩ => ⟨a, b.symm⟩

set_option maxRecDepth 100000 in
set_option maxHeartbeats 4000000 in
theorem l11Mark_any (v : Value) (l : Lab) (s t m : Nat) (w : World) (hv : RLab w v l) (hn : l.shows.length ≤ 40) (hs : s < l.shows.length) (ht : t < l.shows.length) (hl : ∀ xs ∈ l.shows, xs.length ≤ 1000)
    (hd : diffM (l.shows.getD s []) (l.shows.getD t []) = some m) :
    Calls Tryz.prog 135 #[v, .int .i64 s, .int .i64 t] w fun e w' => ∃ r, e = .returned r ∧ w'.ownsRow w.heap.size 3 1 r (markF (l.shows.getD s []) (l.shows.getD t [])).length (ints (markF (l.shows.getD s []) (l.shows.getD t []))) ∧ Below w.heap.size w w' := by
  obtain ⟨sv, tv, rfl, hsv, htv⟩ := hv
  obtain ⟨X, hX⟩ : ∃ X : Nat → List Int, X = fun j => l.shows.getD j default := ⟨_, rfl⟩
  have hXE : ∀ j, X j = l.shows.getD j default := fun j => by rw [hX]
  obtain ⟨A1, c1, vs1, rfl, _, _, _, _⟩ := id hsv
  obtain ⟨sb, so, rfl, hrow⟩ := rss_rows (X := X) hsv hXE (by omega)
  obtain ⟨As, as_, hRs⟩ := hrow s hs
  obtain ⟨At, at_, hRt⟩ := hrow t ht
  have hls : (X s).length ≤ 1000 := by rw [hXE]; exact hl _ (by simp [List.getD, hs])
  have hlt : (X t).length ≤ 1000 := by rw [hXE]; exact hl _ (by simp [List.getD, ht])
  have es : l.shows.getD s [] = X s := (hXE s).symm
  have et : l.shows.getD t [] = X t := (hXE t).symm
  rw [es, et] at hd ⊢
  obtain ⟨hm8, hm, hmj⟩ := diff_at hd
  have hmk : markF (X s) (X t) = if hasM (X s) m then [1, (m : Int)] else [2, 1, (m : Int)] := by unfold markF; rw [hd]
  have HMK := Lib.hid hmk
  have HM := Lib.hid hm
  have HMJ := Lib.hid hmj
  have HB0 := Lib.hid ((Below.refl w.heap.size w).alloc (Nat.le_refl _) (.cells #[.slice (some ⟨sb, so, none⟩) l.shows.length c1, tv] 27))
  have hbx := heap_alloc_new w (.cells #[.slice (some ⟨sb, so, none⟩) l.shows.length c1, tv] 27)
  have c0 : (w.alloc (.cells #[.slice (some ⟨sb, so, none⟩) l.shows.length c1, tv] 27)).cell? ⟨w.heap.size, 0, none⟩ = some (.slice (some ⟨sb, so, none⟩) l.shows.length c1) := cell_of_row _ _ _ _ _ _ hbx
  have HC := Lib.hid (show ∀ W, Below (w.heap.size + 1) (w.alloc (.cells #[.slice (some ⟨sb, so, none⟩) l.shows.length c1, tv] 27)) W → W.cell? ⟨w.heap.size, 0, none⟩ = some (.slice (some ⟨sb, so, none⟩) l.shows.length c1) from fun W hb => cell_below hb c0 (by simp))
  have HRS := Lib.hid (show ∀ W, Below w.heap.size w W → W.cell? ⟨sb, so + s, none⟩ = some (.slice As (X s).length as_) ∧ Cells W As (ints (X s)) from fun W hb => hRs W hb)
  have HRT := Lib.hid (show ∀ W, Below w.heap.size w W → W.cell? ⟨sb, so + t, none⟩ = some (.slice At (X t).length at_) ∧ Cells W At (ints (X t)) from fun W hb => hRt W hb)
  have q0 : (0 : Int) ≤ (s : Int) := by omega
  have q1 : (s : Int) < (l.shows.length : Int) := by omega
  have q2 : (0 : Int) ≤ (t : Int) := by omega
  have q3 : (t : Int) < (l.shows.length : Int) := by omega
  clear hsv htv hd hX hXE hrow hRs hRt es et hm hmj hmk hl hbx c0
  generalize X s = xs at *
  generalize X t = xt at *
  go_enter Tryz.func135, Tryz.ntmps135
  go_wp2_with fail
  go_loopw [7] (fun i wr => ∃ k : Nat, k ≤ m ∧ i = .int .i64 k ∧ Below (w.heap.size + 1) (w.alloc (.cells #[.slice (some ⟨sb, so, none⟩) l.shows.length c1, tv] 27)) wr) (fun i _ => m - (intOf i).toNat)
  case atStart => exact ⟨0, Nat.zero_le _, rfl, Below.refl _ _⟩
  case round =>
    obtain ⟨k, hk, rfl, hbel⟩ := hrel
    have c0 := HC.out wr hbel
    have hbw : Below w.heap.size w wr := HB0.out.trans (hbel.mono (by omega))
    obtain ⟨cs, hCs⟩ := HRS.out wr hbw
    obtain ⟨ct, hCt⟩ := HRT.out wr hbw
    have HCS := Lib.hid (fun n => l1Has_q As as_ xs (k : Int) (wr.drewN n) (by omega) (show Cells (wr.drewN n) As (ints xs) from hCs))
    have HCT := Lib.hid (fun n => l1Has_q At at_ xt (k : Int) (wr.drewN n) (by omega) (show Cells (wr.drewN n) At (ints xt) from hCt))
    have HQS := Lib.hid hCs
    have HQT := Lib.hid hCt
    have HB := Lib.hid hbel
    have hsz := hbel.size
    clear hCs hCt hbel hbw HQS HQT
    cases h1 : hasI xs (k : Int) <;> cases h2 : hasI xt (k : Int)
    · have hne : k < m := by
        rcases Nat.lt_or_eq_of_le hk with h | h
        · exact h
        · subst h; have := HM.out; unfold hasM at this; unfold hasI at h1 h2; rw [h1, h2] at this; cases this
      rw [h1] at HCS
      rw [h2] at HCT
      clear h1 h2
      go_wp2_with fail
      go_quiet ((first | with_reducible exact Calls.quiet_of_same (HCS.out _) | with_reducible exact Calls.quiet_of_same (HCT.out _)))
      have HB2 := Lib.hid (below_drewN' HB.out nq)
      go_wp2_with fail
      go_roundw
      case rel => exact ⟨k + 1, by omega, by go_num, HB2.out⟩
      case measure => simp [intOf]; omega
    · have hkm : k = m := by
        refine Classical.byContradiction fun h => ?_
        have := HMJ.out k (by omega)
        unfold hasM at this
        unfold hasI at h1 h2
        rw [h1, h2] at this
        cases this
      subst hkm
      have hF : markF xs xt = [2, 1, (k : Int)] := by
        rw [HMK.out]
        unfold hasM
        unfold hasI at h1
        rw [h1]; rfl
      have HF := Lib.hid hF
      rw [h1] at HCS
      rw [h2] at HCT
      clear h1 h2 hF
      go_wp2_with fail
      go_quiet ((first | with_reducible exact Calls.quiet_of_same (HCS.out _) | with_reducible exact Calls.quiet_of_same (HCT.out _)))
      have HB2 := Lib.hid (below_drewN' HB.out nq)
      have HO := Lib.hid (ownsRow_lit (n := 3) (w := (wr.drewN nq).alloc (.cells #[.int .i64 2, .int .i64 1, .int .i64 k] 3)) (xs := [.int .i64 2, .int .i64 1, .int .i64 k]) (heap_alloc_new _ _) rfl (by unfold maxLen; omega))
      have d1 := HC.out _ HB2.out
      have d2 := (HRS.out (wr.drewN nq) (HB0.out.trans (HB2.out.mono (by omega)))).1
      have HQ2 := Lib.hid (HCS.out nq)
      clear HCT HCS
      go_wp2_with ((with_reducible refine HQ2.out.mono ?_); rintro e w1 ⟨rfl, rfl⟩)
      go_ret
      exact ⟨_, rfl, by rw [HF.out]; exact owns_mono HO.out (HB0.out.trans (HB2.out.mono (by omega))).size, (HB0.out.trans (HB2.out.mono (by omega))).alloc (HB0.out.trans (HB2.out.mono (by omega))).size _⟩
    · have hkm : k = m := by
        refine Classical.byContradiction fun h => ?_
        have := HMJ.out k (by omega)
        unfold hasM at this
        unfold hasI at h1 h2
        rw [h1, h2] at this
        cases this
      subst hkm
      have hF : markF xs xt = [1, (k : Int)] := by
        rw [HMK.out]
        unfold hasM
        unfold hasI at h1
        rw [h1]; rfl
      have HF := Lib.hid hF
      rw [h1] at HCS
      rw [h2] at HCT
      clear h1 h2 hF
      go_wp2_with fail
      go_quiet ((first | with_reducible exact Calls.quiet_of_same (HCS.out _) | with_reducible exact Calls.quiet_of_same (HCT.out _)))
      have HB2 := Lib.hid (below_drewN' HB.out nq)
      have HO := Lib.hid (ownsRow_lit (n := 2) (w := (wr.drewN nq).alloc (.cells #[.int .i64 1, .int .i64 k] 3)) (xs := [.int .i64 1, .int .i64 k]) (heap_alloc_new _ _) rfl (by unfold maxLen; omega))
      have d1 := HC.out _ HB2.out
      have d2 := (HRS.out (wr.drewN nq) (HB0.out.trans (HB2.out.mono (by omega)))).1
      have HQ2 := Lib.hid (HCS.out nq)
      clear HCT HCS
      go_wp2_with ((with_reducible refine HQ2.out.mono ?_); rintro e w1 ⟨rfl, rfl⟩)
      go_ret
      exact ⟨_, rfl, by rw [HF.out]; exact owns_mono HO.out (HB0.out.trans (HB2.out.mono (by omega))).size, (HB0.out.trans (HB2.out.mono (by omega))).alloc (HB0.out.trans (HB2.out.mono (by omega))).size _⟩
    · have hne : k < m := by
        rcases Nat.lt_or_eq_of_le hk with h | h
        · exact h
        · subst h; have := HM.out; unfold hasM at this; unfold hasI at h1 h2; rw [h1, h2] at this; cases this
      rw [h1] at HCS
      rw [h2] at HCT
      clear h1 h2
      go_wp2_with fail
      go_quiet ((first | with_reducible exact Calls.quiet_of_same (HCS.out _) | with_reducible exact Calls.quiet_of_same (HCT.out _)))
      have HB2 := Lib.hid (below_drewN' HB.out nq)
      go_wp2_with fail
      go_roundw
      case rel => exact ⟨k + 1, by omega, by go_num, HB2.out⟩
      case measure => simp [intOf]; omega

end Go.Proofs.YtdgnhfhaaghoaaaGreatDoor
