/- Labelled systems: the program's silent ways, walked. -/
import Derived.Test.YtdgnhfhaaghoaaaGreatDoorProg
import Derived.Test.YtdgnhfhaaghoaaaGreatDoorJ27
import Derived.Test.YtdgnhfhaaghoaaaGreatDoorJ42
import Derived.Test.YtdgnhfhaaghoaaaGreatDoorJ44
set_option linter.unusedSimpArgs false
set_option linter.unusedVariables false
namespace Go.Proofs.YtdgnhfhaaghoaaaGreatDoor
open Go.RowKit

theorem info_big : (Tryz.prog.info? 218).map (fun i => (i.zero, i.size, i.bytes)) = some (some (.agg #[.int .i64 0, .slice none 0 0, .slice none 0 0, .int .i64 0, .slice none 0 0, .slice none 0 0]), 6, 112) := by kernel_rfl

theorem TRN.mono {w : World} {B B' : Nat} {u : Value} {l : List (List Int)} (h : TRN w B u l) (hB : B' ≤ B) : TRN w B' u l := by
  obtain ⟨vs, h1, h2, h3, h4⟩ := h
  exact ⟨vs, owns_mono h1 hB, fun i v xs a b => owns_mono (h2 i v xs a b) hB, h3, h4⟩
theorem owns_someS {w : World} {B : Nat} {e : TypeId} {s : Nat} {v : Value} {n : Nat} {xs : List Value} (h : w.ownsRow B e s v n xs) (hn : 0 < n) : ∃ b, v.ownBlock = some b := by
  rcases h.2 with ⟨_, e⟩ | ⟨g, _, _, rfl, _⟩
  · omega
  · exact ⟨g, rfl⟩
theorem ra3_owns {w : World} {B : Nat} {v : Value} {l : List I3} (h : w.ownsRow B 103 3 v l.length (l.flatMap tri)) (hn : l.length ≤ maxLen) : RA3 w v l := by
  obtain ⟨A, c, rfl, h⟩ := owns_form h
  exact ⟨A, c, rfl, hn, Cells.of_owns h⟩
def waysTo (n : Nat) (ss : List I3) (k : Nat) : List (List Int) := (List.range k).map (waysR n ss)
theorem waysTo_next (n : Nat) (ss : List I3) (k : Nat) : waysTo n ss (k + 1) = waysTo n ss k ++ [waysR n ss k] := by
  unfold waysTo
  rw [List.range_succ, List.map_append]
  rfl
theorem waysTo_len (n : Nat) (ss : List I3) (k : Nat) : (waysTo n ss k).length = k := by simp [waysTo]

set_option maxRecDepth 100000 in
set_option maxHeartbeats 16000000 in
theorem silent_any (v : Value) (l : Lab) (w : World) (hs : SmallLab l) (hn1 : 1 ≤ l.shows.length) (hn40 : l.shows.length ≤ 40) (hst : StepsN l.shows.length l.steps) (hv : RLab w v l) :
    Calls Tryz.prog 160 #[v] w fun e w' => ∃ u, e = .returned u ∧ TRN w' w.heap.size u (waysTo l.shows.length l.steps l.shows.length) ∧ Below w.heap.size w w' := by
  obtain ⟨i0, hi, hz0, hz1, hz2⟩ := info_parts info_big
  have HST := Lib.hid hst
  have hsl := hs.2.1
  obtain ⟨sv, tv, rfl, hsv, htv⟩ := hv
  have HTV := Lib.hid (show ∀ W, Below w.heap.size w W → RA3 W tv l.steps from fun W hb => htv.below hb)
  obtain ⟨A, c0, vs, rfl, hmA, _, _, _⟩ := hsv
  obtain ⟨D, d, rfl, hmD, _⟩ := htv
  obtain ⟨W0, hW0⟩ : ∃ W0, W0 = w.alloc (.cells #[.slice A l.shows.length c0, .slice D l.steps.length d] 27) := ⟨_, rfl⟩
  have hz0' : Below w.heap.size w W0 := by rw [hW0]; exact (Below.refl _ _).alloc (Nat.le_refl _) _
  have hs0 : W0.heap.size = w.heap.size + 1 := by rw [hW0]; simp
  have bx0 : W0.heap[w.heap.size]? = some (.cells #[.slice A l.shows.length c0, .slice D l.steps.length d] 27) := by rw [hW0]; exact heap_alloc_new _ _
  have HX := Lib.hid (show ∀ W, Below W0.heap.size W0 W → W.cell? ⟨w.heap.size, 0, none⟩ = some (.slice A l.shows.length c0) ∧ W.cell? ⟨w.heap.size, 1, none⟩ = some (.slice D l.steps.length d) from fun W hW => by
    have := (hW.block _ (by omega)).trans bx0
    exact ⟨cell_of_row _ _ _ _ _ _ this, cell_of_row _ _ _ _ _ _ this⟩)
  have HTV := Lib.hid (show ∀ W, Below W0.heap.size W0 W → RA3 W (.slice D l.steps.length d) l.steps from fun W hb => HTV.out W (hz0'.trans (hb.mono hz0'.size)))
  have HZ0 := Lib.hid hz0'
  obtain ⟨x0, x1⟩ := HX.out W0 (Below.refl _ _)
  have HW0 := Lib.hid hW0
  have hsz0 : w.heap.size ≤ W0.heap.size := by omega
  clear hst bx0 hz0' hs0 hW0 hs
  unfold maxLen at hmA hmD
  go_enter Tryz.func160, Tryz.ntmps160
  go_wp2_with (at_make; refine wpList_make_full _ rfl _ _ 160 rfl (w.heap.size + 1) 218 i0 _ 6 Tryz.underlying160 hi hz0 hz1 _ _ _ _ l.shows.length rfl rfl rfl rfl (by rw [hz2]; omega) (by unfold maxLen; omega) (by simp) ?_; intro w1 hown1 hgrow1; rw [← HW0.out] at hgrow1; have hb1 : Below W0.heap.size W0 w1 := (Below.refl _ _).grown hgrow1 (Nat.le_refl _) (by simp); have y1 : ∀ o, (w1.alloc o).cell? ⟨w.heap.size, 1, none⟩ = some (.slice D l.steps.length d) := fun o => (HX.out _ (hb1.alloc hb1.size o)).2)
  have hs1 := hb1.size
  have HB1 := Lib.hid hb1
  have hbx := heap_alloc_new w1 (.cells #[.slice (some ⟨w.heap.size + 1, 0, none⟩) l.shows.length l.shows.length, .slice none 0 0] 162)
  have HBX := Lib.hid hbx
  have HBA := Lib.hid (hb1.alloc hs1 (.cells #[.slice (some ⟨w.heap.size + 1, 0, none⟩) l.shows.length l.shows.length, .slice none 0 0] 162))
  clear hown1 hgrow1 hb1 x0 x1 HW0 y1 hbx
  go_loopw [16] (fun i wr => ∃ k : Nat, k ≤ l.steps.length ∧ i = .int .i64 k ∧ Below W0.heap.size W0 wr ∧ ∃ tu, wr.heap[w1.heap.size]? = some (.cells #[.slice (some ⟨w.heap.size + 1, 0, none⟩) l.shows.length l.shows.length, tu] 162) ∧ wr.ownsRow W0.heap.size 103 3 tu (silS (l.steps.take k)).length ((silS (l.steps.take k)).flatMap tri))
    (fun i _ => l.steps.length - (intOf i).toNat)
  case atStart => exact ⟨0, Nat.zero_le _, rfl, HBA.out, _, HBX.out, World.ownsRow_nil _ _ _ _⟩
  case round =>
    clear HBA HBX
    obtain ⟨k, hk, rfl, hbel, tu, hbx, hown⟩ := hrel
    obtain ⟨AT, cT, rfl, hown⟩ := owns_form hown
    obtain ⟨x0, x1⟩ := HX.out wr hbel
    have hszr := hbel.size
    have hxlt := (Array.getElem?_eq_some_iff.1 hbx).1
    by_cases hkt : k < l.steps.length
    · obtain ⟨b, oo, c', e, h0, h1, h2⟩ := (HTV.out wr hbel).at_ (List.getElem?_eq_getElem hkt)
      cases e
      have hlen : (silS (l.steps.take k)).length ≤ k := by
        unfold silS
        exact Nat.le_trans (List.length_filter_le _ _) (by rw [List.length_take]; omega)
      have HNX := Lib.hid (silS_take hkt)
      have q0 : (0 : Int) ≤ (k : Int) := by omega
      have q1 : (k : Int) < (l.steps.length : Int) := by omega
      have HO := Lib.hid (fun o => hown.alloc o)
      have HB := Lib.hid (fun o => hbel.alloc hszr o)
      have HBX := Lib.hid (fun o => (heap_alloc_old wr o hxlt).trans hbx)
      clear hown hbel hbx
      generalize l.steps[k] = s at *
      generalize silS (l.steps.take k) = sk at *
      cases h00 : (s.2.1 == 0)
      · have HSK := Lib.hid (show silS (l.steps.take (k + 1)) = sk by rw [HNX.out, h00, if_neg Bool.false_ne_true])
        go_wp2_with fail
        go_roundw
        case rel => exact ⟨k + 1, by omega, by go_num, HB.out _, _, HBX.out _, by rw [HSK.out]; exact HO.out _⟩
        case measure => simp [intOf]; omega
      · have HSK := Lib.hid (show silS (l.steps.take (k + 1)) = sk ++ [s] by rw [HNX.out, h00, if_pos rfl])
        obtain ⟨z0, z1, z2, z3⟩ := box_two (HBX.out (.cells #[.int .i64 s.1, .int .i64 s.2.1, .int .i64 s.2.2] 103))
        have e0 : (wr.alloc (.cells #[.int .i64 s.1, .int .i64 s.2.1, .int .i64 s.2.2] 103)).cell? ⟨wr.heap.size, 0, none⟩ = some (.int .i64 s.1) := cell_of_row _ _ _ _ _ _ (heap_alloc_new _ _)
        have e1 : (wr.alloc (.cells #[.int .i64 s.1, .int .i64 s.2.1, .int .i64 s.2.2] 103)).cell? ⟨wr.heap.size, 1, none⟩ = some (.int .i64 s.2.1) := cell_of_row _ _ _ _ _ _ (heap_alloc_new _ _)
        have e2 : (wr.alloc (.cells #[.int .i64 s.1, .int .i64 s.2.1, .int .i64 s.2.2] 103)).cell? ⟨wr.heap.size, 2, none⟩ = some (.int .i64 s.2.2) := cell_of_row _ _ _ _ _ _ (heap_alloc_new _ _)
        have hxne : w1.heap.size < wr.heap.size := hxlt
        have HOE := Lib.hid (HO.out (.cells #[.int .i64 s.1, .int .i64 s.2.1, .int .i64 s.2.2] 103))
        have HXE := Lib.hid (HBX.out (.cells #[.int .i64 s.1, .int .i64 s.2.1, .int .i64 s.2.2] 103))
        have HBE := Lib.hid (HB.out (.cells #[.int .i64 s.1, .int .i64 s.2.1, .int .i64 s.2.2] 103))
        go_wp2_with (at_builtin; refine wpList_app el_a3 rfl _ _ rfl W0.heap.size _ _ _ rfl HOE.out (tri s) rfl (by simp) rfl (fun u hu => by simp [tri] at hu; rcases hu with rfl | rfl | rfl <;> rfl) (by omega) (by simp; omega) ?_; intro v5 w5 ho5 hk5 hm5; obtain ⟨A5, c5, rfl, ho5⟩ := owns_form ho5; have hb5 := (hk5.block w1.heap.size (by simp; omega) (owns_ne HOE.out HXE.out (by decide))).trans HXE.out; obtain ⟨z0, z1, z2, z3⟩ := box_two hb5)
        have HB5 := Lib.hid ((below_kept HBE.out hk5 (fun q hq => (HOE.out.lt q hq).1) (by simp; omega)).setCell (p := ⟨w1.heap.size, 1, none⟩) (by dsimp only; omega) (.slice A5 (sk.length + 1) c5))
        have HX5 := Lib.hid (heap_setCell_same w5 w1.heap.size 1 _ _ (.slice A5 (sk.length + 1) c5) hb5)
        have HO5 := Lib.hid (show (w5.setCell ⟨w1.heap.size, 1, none⟩ (.slice A5 (sk.length + 1) c5)).ownsRow W0.heap.size 103 3 (.slice A5 (sk.length + 1) c5) (silS (l.steps.take (k + 1))).length ((silS (l.steps.take (k + 1))).flatMap tri) from by
          have hkk : Kept (fun q => q = w1.heap.size) w5 (w5.setCell ⟨w1.heap.size, 1, none⟩ (.slice A5 (sk.length + 1) c5)) := (Kept.refl _ _).setCell (S := fun q => q = w1.heap.size) (p := ⟨w1.heap.size, 1, none⟩) rfl _
          have := owns_kept ho5 hkk (fun g hg e => by subst e; exact owns_ne ho5 hb5 (by decide) hg)
          rw [HSK.out, List.length_append, List.flatMap_append]
          simpa using this)
        clear ho5 hk5 hm5 hb5 z0 z1 z2 z3 e0 e1 e2
        go_wp2_with fail
        go_roundw
        case rel => exact ⟨k + 1, by omega, by go_num, HB5.out, _, HX5.out, HO5.out⟩
        case measure => simp [intOf]; omega
    · obtain rfl : k = l.steps.length := by omega
      rw [List.take_length] at hown hbx
      have hlen : (silS l.steps).length ≤ l.steps.length := List.length_filter_le _ _
      have HSS := Lib.hid (show ∀ W, Below wr.heap.size wr W → RA3 W (.slice AT (silS l.steps).length cT) (silS l.steps) from fun W hW => ra3_owns (owns_below hown hW (Nat.le_refl _)) (by unfold maxLen; omega))
      have HST2 := Lib.hid (silS_n HST.out)
      have HXX := Lib.hid (show ∀ W, Below wr.heap.size wr W → W.cell? ⟨w1.heap.size, 0, none⟩ = some (.slice (some ⟨w.heap.size + 1, 0, none⟩) l.shows.length l.shows.length) ∧ W.cell? ⟨w1.heap.size, 1, none⟩ = some (.slice AT (silS l.steps).length cT) ∧ W.cell? ⟨w.heap.size, 0, none⟩ = some (.slice A l.shows.length c0) from fun W hW => by
        obtain ⟨y0, y1, _, _⟩ := box_two ((hW.block _ hxlt).trans hbx)
        exact ⟨y0, y1, (HX.out W (hbel.trans (hW.mono hszr))).1⟩)
      have HBE := Lib.hid hbel
      obtain ⟨Wz, hWz⟩ : ∃ Wz, Wz = wr := ⟨_, rfl⟩
      have HB0 := Lib.hid ((Below.refl wr.heap.size wr).alloc (Nat.le_refl _) (.cells #[] 30))
      obtain ⟨y0, y1, y2⟩ := HXX.out _ HB0.out
      have HWZ := Lib.hid hWz
      have HM := Lib.hid (show (wr.alloc (.cells #[] 30)).ownsRow wr.heap.size 30 1 (.slice (some ⟨wr.heap.size, 0, none⟩) 0 0) 0 [] from made_row _ _)
      have hsz1 : w1.heap.size < wr.heap.size := hxlt
      rw [← hWz] at HSS HXX HBE HB0 hszr hsz1
      clear hown hbel hbx hWz hxlt x0 x1
      go_wp2_with fail
      rw [← HWZ.out]
      go_loopw [6, 34] (fun u i wr => ∃ k : Nat, k ≤ l.shows.length ∧ i = .int .i64 k ∧ TRN wr Wz.heap.size u (waysTo l.shows.length l.steps k) ∧ Below Wz.heap.size Wz wr)
        (fun _ i _ => l.shows.length - (intOf i).toNat)
      case atStart => exact ⟨0, Nat.zero_le _, rfl, TRN.nil (by rw [HWZ.out]; exact HM.out), by rw [HWZ.out]; rw [← HWZ.out]; exact HB0.out⟩
      case round =>
        clear HB0 HM y0 y1 y2 HWZ
        obtain ⟨k, hk, rfl, htab, hbel⟩ := hrel
        have T := htab
        obtain ⟨vs, t1, t2, t3, t4⟩ := htab
        rw [waysTo_len] at t1
        obtain ⟨AU, cU, rfl, t1⟩ := owns_form t1
        obtain ⟨y0, y1, y2⟩ := HXX.out wr hbel
        have hsr := hbel.size
        by_cases hlt : k < l.shows.length
        · have HR := Lib.hid (reached_any (some ⟨w.heap.size + 1, 0, none⟩) l.shows.length (.slice AT (silS l.steps).length cT) l.shows.length (silS l.steps) k wr (by omega) hn40 HST2.out hlt (HSS.out wr hbel))
          have HNX := Lib.hid (waysTo_next l.shows.length l.steps k)
          have HPOS := Lib.hid (show 0 < (reachR (silS l.steps) (k : Int) l.shows.length).length from List.length_pos_of_mem (ways_is HST.out hlt).1)
          have T1 := Lib.hid t1
          have T2 := Lib.hid t2
          have T3 := Lib.hid t3
          have T4 := Lib.hid t4
          have HB := Lib.hid hbel
          clear t1 t2 t3 t4 hbel T
          go_wp2_with fail
          refine HR.out.mono ?_
          rintro e w6 ⟨r, rfl, hr, hb6⟩
          have hnn := owns_someS hr HPOS.out
          obtain ⟨AR, cR, rfl, hr⟩ := owns_form hr
          have HR6 := Lib.hid hr
          have HN6 := Lib.hid hnn
          have HB6 := Lib.hid hb6
          have hs6 := hb6.size
          have HT16 := Lib.hid (owns_below T1.out hb6 (Nat.le_refl _))
          clear hr hb6 hnn
          go_wp2_with (at_builtin; refine wpList_app el_ints rfl _ _ rfl Wz.heap.size _ _ _ rfl HT16.out [.slice AR (reachR (silS l.steps) (k : Int) l.shows.length).length cR] rfl rfl rfl (one1 rfl) (by omega) (by omega) ?_; intro v7 w7 ho7 hk7 hm7)
          have HP := Lib.hid (TRN.push (x := reachR (silS l.steps) (k : Int) l.shows.length) (w := wr) (l := waysTo l.shows.length l.steps k) (by rw [waysTo_len]; exact T1.out) T2.out T3.out T4.out hsr HR6.out HN6.out HB6.out (by rw [waysTo_len]; exact ho7) hk7)
          have HG := Lib.hid (below_kept (HB.out.trans (HB6.out.mono hsr)) hk7 (fun q hq => (T1.out.lt q hq).1) (by omega))
          clear ho7 hk7 hm7
          go_wp2_with fail
          go_roundw
          case rel => exact ⟨k + 1, by omega, by go_num, by rw [HNX.out]; exact HP.out, HG.out⟩
          case measure => simp [intOf]; omega
        · obtain rfl : k = l.shows.length := by omega
          have HT := Lib.hid (T.mono (show w.heap.size ≤ Wz.heap.size by omega))
          have HB := Lib.hid (HZ0.out.trans ((HBE.out.trans (hbel.mono hszr)).mono hsz0))
          clear t1 t2 t3 t4 hbel T
          go_wp2_with fail
          go_ret
          exact ⟨_, rfl, HT.out, HB.out⟩

end Go.Proofs.YtdgnhfhaaghoaaaGreatDoor
