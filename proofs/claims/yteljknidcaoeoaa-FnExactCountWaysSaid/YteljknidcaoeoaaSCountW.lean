/- Ways counted: program and reference walked. -/
import Derived.Test.YteljknidcaoeoaaProg
import Derived.Test.YteljknidcaoeoaaSCount
import Derived.StillTailTactics
set_option linter.unusedVariables false
namespace Go.Proofs.Yteljknidcaoeoaa
open Go.RowKit

theorem ifill_start (n : Nat) (res : List Int) (h : res.length = n) : (madeCells (Value.int .i64 0).cells (n * 1)).toList = ints (fillV res 0 0) := by
  show (madeCells #[_] _).toList = _
  rw [toList_madeCells_one, Nat.mul_one, fillV_zero, h]
  simp

theorem ifill_at0 {xs : List Int} {k : Nat} (h : k < xs.length) : (fillV xs 0 k)[k]? = some 0 := by
  unfold fillV
  rw [List.getElem?_append_right (by rw [List.length_take]; omega), List.getElem?_replicate, if_pos (by rw [List.length_take]; omega)]

theorem icell_at {wr : World} {B0 g n c k : Nat} {e : TypeId} {row : List Int} {x : Int} (hown : wr.ownsRow B0 e 1 (.slice (some ⟨g, 0, none⟩) n c) n (ints row)) (hk : k < n) (hx : row[k]? = some x) : wr.cell? ⟨g, k, none⟩ = some (.int .i64 x) := by
  have hcell := hown.cellAt k (by omega)
  have hv : (ints row)[k]? = some (.int .i64 x) := by simp [ints, hx]
  rw [hv] at hcell
  exact hcell

theorem irow_cell {wr : World} {B0 g n k : Nat} {e : TypeId} {row : List Int} {x : Int} (hown : wr.ownsRow B0 e 1 (.slice (some ⟨g, 0, none⟩) n n) n (ints row)) (hl : row.length = n) (hk : k < n) (hx : row[k]? = some x) (y : Int) :
    wr.cell? ⟨g, k, none⟩ = some (.int .i64 x) ∧ wr.frozen? ⟨g, k, none⟩ = false ∧ (wr.setCell ⟨g, k, none⟩ (.int .i64 y)).ownsRow B0 e 1 (.slice (some ⟨g, 0, none⟩) n n) n (ints (row.set k y)) := by
  have hcell := hown.cellAt k (by omega)
  have hv : (ints row)[k]? = some (.int .i64 x) := by simp [ints, hx]
  rw [hv] at hcell
  refine ⟨hcell, hown.frozenAt k, ?_⟩
  have hst := (hown.stored k (.int .i64 y)).1
  have e2 : (ints row).set k (.int .i64 y) = ints (row.set k y) := by simp [ints, List.map_set]
  rwa [e2] at hst

theorem owns_other {w : World} {B : Nat} {e : TypeId} {s : Nat} {g n c : Nat} {xs : List Value} {p : Addr} {u : Value} (h : w.ownsRow B e s (.slice (some ⟨g, 0, none⟩) n c) n xs) (hne : g ≠ p.block) : (w.setCell p u).ownsRow B e s (.slice (some ⟨g, 0, none⟩) n c) n xs := by
  refine ⟨h.1, ?_⟩
  rcases h.2 with hn | ⟨g', cap, cur, e', hbg, hgg, rest⟩
  · exact .inl hn
  · cases e'
    exact .inr ⟨g, c, cur, rfl, hbg, by rw [heap_setCell_other _ _ _ _ hne]; exact hgg, rest⟩

theorem l1Least_any (a b : Int) (w : World) :
    Calls Try.prog 55 #[.int .i64 a, .int .i64 b] w fun e w' => e = .returned (.int .i64 (minI a b)) ∧ w' = w := by
  unfold minI
  by_cases h : a < b
  · rw [if_pos h]
    go_enter Try.func55, Try.ntmps55
    go_wp2
    go_ret
    exact ⟨rfl, rfl⟩
  · rw [if_neg h]
    go_enter Try.func55, Try.ntmps55
    go_wp2
    go_ret
    exact ⟨rfl, rfl⟩

set_option maxRecDepth 100000 in
set_option maxHeartbeats 16000000 in
theorem specCountWays_any (v : Value) (l : Sys) (p len : Int) (w : World) (hs : SmallSys l) (hv : RSys w v l) :
    Calls Try.prog 20 #[v, .int .i64 p, .int .i64 len] w fun e w' => e = .returned (.tuple #[.int .i64 (countR l p len), .bool (countOk l p len)]) ∧ Below w.heap.size w w' := by
  obtain ⟨i0, hi, hz0, hz1', hz2'⟩ := info_parts info_ri
  have hb1 : ∀ o, Below w.heap.size w (w.alloc o) := fun o => (Below.refl _ _).alloc (Nat.le_refl _) o
  have HV := Lib.hid (show ∀ W, Below w.heap.size w W → RSys W v l from fun W hb => hv.below hb)
  have HB := Lib.hid hb1
  obtain ⟨sv, tv, rfl, hsv, htv⟩ := hv
  obtain ⟨A, c, rfl, _⟩ := hsv.form
  have HT := Lib.hid (show ∀ W, Below w.heap.size w W → RA3 W tv l.steps from fun W hb => htv.below hb)
  obtain ⟨B, d, rfl, _, _⟩ := htv
  clear hsv hb1
  have H1 := Lib.hid (fun o => l10Good_any _ l (w.alloc o) hs (HV.out _ (HB.out o)))
  have HIN := Lib.hid (fun n lo hi W => l1In_any n lo hi W)
  have hsn := hs.2
  have hsm := hs.1
  have hnoR : countOk l p len = false → countR l p len = 0 := fun h => by simp [countR, h]
  cases hg : goodSys l
  · have E1 := Lib.hid (show countOk l p len = false by simp [countOk, okState, hg])
    have E2 := Lib.hid (hnoR E1.out)
    rw [hg] at H1
    clear hg
    go_enter Try.func20, Try.ntmps20
    go_wp2_with fail
    refine (H1.out _).mono ?_
    rintro e w1 ⟨rfl, hw1⟩
    have hz1 := (HB.out _).trans (hw1.mono (HB.out _).size)
    clear hw1
    go_wp2_with fail
    go_ret2
    exact ⟨by rw [E1.out, E2.out]; rfl, hz1⟩
  rw [hg] at H1
  cases hst : stateB l p
  · have E1 := Lib.hid (show countOk l p len = false by simp [countOk, okState, hst])
    have E2 := Lib.hid (hnoR E1.out)
    clear hg
    go_enter Try.func20, Try.ntmps20
    go_wp2_with fail
    refine (H1.out _).mono ?_
    rintro e w1 ⟨rfl, hw1⟩
    have hz1 := (HB.out _).trans (hw1.mono (HB.out _).size)
    obtain ⟨bx, _⟩ := one_box hw1
    have x0 : w1.cell? ⟨w.heap.size, 0, none⟩ = some (.slice A l.states.length c) := cell_of_row _ _ _ _ _ _ bx
    have x1 : w1.cell? ⟨w.heap.size, 1, none⟩ = some (.slice B l.steps.length d) := cell_of_row _ _ _ _ _ _ bx
    clear hw1
    go_wp2_with fail
    refine (l10State_any _ l p w1 hs (HV.out w1 hz1)).mono ?_
    rintro e w2 ⟨rfl, hw2⟩
    rw [hst]
    have hz2 := hz1.trans (hw2.mono hz1.size)
    clear hw2 bx x0 x1
    go_wp2_with fail
    go_ret2
    exact ⟨by rw [E1.out, E2.out]; rfl, hz2⟩
  cases hin : inB len 0 60
  · have E1 := Lib.hid (show countOk l p len = false by simp [countOk, hin])
    have E2 := Lib.hid (hnoR E1.out)
    clear hg
    go_enter Try.func20, Try.ntmps20
    go_wp2_with fail
    refine (H1.out _).mono ?_
    rintro e w1 ⟨rfl, hw1⟩
    have hz1 := (HB.out _).trans (hw1.mono (HB.out _).size)
    obtain ⟨bx, _⟩ := one_box hw1
    have x0 : w1.cell? ⟨w.heap.size, 0, none⟩ = some (.slice A l.states.length c) := cell_of_row _ _ _ _ _ _ bx
    have x1 : w1.cell? ⟨w.heap.size, 1, none⟩ = some (.slice B l.steps.length d) := cell_of_row _ _ _ _ _ _ bx
    clear hw1
    go_wp2_with fail
    refine (l10State_any _ l p w1 hs (HV.out w1 hz1)).mono ?_
    rintro e w2 ⟨rfl, hw2⟩
    rw [hst]
    have hz2 := hz1.trans (hw2.mono hz1.size)
    have y0 := cell_below hw2 x0 (lt_of_cell x0)
    have y1 := cell_below hw2 x1 (lt_of_cell x1)
    have hby := (hw2.block w.heap.size (lt_of_cell x0)).trans bx
    clear hw2 x0 x1 bx
    go_wp2_with fail
    refine (HIN.out len 0 60 w2).mono ?_
    rintro e w2' ⟨rfl, rfl⟩
    rw [hin]
    go_wp2_with fail
    go_ret2
    exact ⟨by rw [E1.out, E2.out]; rfl, hz2⟩
  obtain ⟨l1, l2⟩ := good_len hg
  have HG := Lib.hid (good_steps hg)
  obtain ⟨m0, m1⟩ := inB_true hin
  obtain ⟨m, rfl⟩ := Int.eq_ofNat_of_zero_le m0
  have hpst := inB_true (show inB p 0 ((l.states.length : Int) - 1) = true from hst)
  obtain ⟨ps, rfl⟩ := Int.eq_ofNat_of_zero_le hpst.1
  have hpl : ps < l.states.length := by omega
  have HOK := Lib.hid (show okState l (ps : Int) = true by simp [okState, hg, hst])
  have HIB := Lib.hid hin
  clear hg
  go_enter Try.func20, Try.ntmps20
  go_wp2_with fail
  refine (H1.out _).mono ?_
  rintro e w1 ⟨rfl, hw1⟩
  have hz1 := (HB.out _).trans (hw1.mono (HB.out _).size)
  obtain ⟨bx, _⟩ := one_box hw1
  have x0 : w1.cell? ⟨w.heap.size, 0, none⟩ = some (.slice A l.states.length c) := cell_of_row _ _ _ _ _ _ bx
  have x1 : w1.cell? ⟨w.heap.size, 1, none⟩ = some (.slice B l.steps.length d) := cell_of_row _ _ _ _ _ _ bx
  clear hw1
  go_wp2_with fail
  refine (l10State_any _ l (ps : Int) w1 hs (HV.out w1 hz1)).mono ?_
  rintro e w2 ⟨rfl, hw2⟩
  rw [hst]
  have hz2 := hz1.trans (hw2.mono hz1.size)
  have y0 := cell_below hw2 x0 (lt_of_cell x0)
  have y1 := cell_below hw2 x1 (lt_of_cell x1)
  have hby := (hw2.block w.heap.size (lt_of_cell x0)).trans bx
  clear hw2 x0 x1 bx
  go_wp2_with fail
  refine (HIN.out (m : Int) 0 60 w2).mono ?_
  rintro e w2' ⟨rfl, rfl⟩
  rw [hin]
  have hlen1 : (List.replicate l.states.length (1 : Int)).length = l.states.length := by simp
  go_wp2_with (first | (at_make; refine wpList_make_full _ rfl _ _ 41 rfl w2.heap.size 3 i0 _ 1 Try.underlying41 hi hz0 hz1' _ _ _ _ l.states.length rfl rfl rfl rfl (by rw [hz2']; omega) (by unfold maxLen; omega) (Nat.le_refl _) ?_; intro w3 hown hgrow; have hb23 : Below w2.heap.size w2 w3 := (Below.refl _ _).grown hgrow (Nat.le_refl _) (by simp); have z0 := cell_below hb23 y0 (lt_of_cell y0); have z1 := cell_below hb23 y1 (lt_of_cell y1)) | fail)
  rw [ifill_start _ _ hlen1] at hown
  have hby3 := (hb23.block w.heap.size (lt_of_cell y0)).trans hby
  have hz3 := hz2.trans (hb23.mono hz2.size)
  have hown := owns_mono hown hz2.size
  have hws : w.heap.size < w2.heap.size := lt_of_cell y0
  clear hgrow y0 y1 z0 z1 hby hb23
  go_loopw [9] (fun i wr => ∃ k : Nat, k ≤ l.states.length ∧ i = .int .i64 k ∧ wr.ownsRow w.heap.size 3 1 (.slice (some ⟨w2.heap.size, 0, none⟩) l.states.length l.states.length) l.states.length (ints (fillV (List.replicate l.states.length (1 : Int)) 0 k)) ∧ Below w.heap.size w wr ∧ wr.heap[w.heap.size]? = some (.cells #[.slice A l.states.length c, .slice B l.steps.length d] 32))
    (fun i _ => l.states.length - (intOf i).toNat)
  case atStart => exact ⟨0, Nat.zero_le _, rfl, hown, hz3, hby3⟩
  case round =>
    clear hown hz3 hby3
    obtain ⟨k, hk, rfl, hown, hbel, hby⟩ := hrel
    by_cases hlt : k < l.states.length
    · have hx := ifill_at0 (xs := List.replicate l.states.length (1 : Int)) (k := k) (by simpa using hlt)
      obtain ⟨g1, g2, g3⟩ := irow_cell hown (by rw [fillV_length _ _ _ (by simp; omega)]; simp) hlt hx 1
      rw [fillV_set _ _ _ _ (by simp; exact hlt) (by simp [hlt])] at g3
      have HN := Lib.hid g3
      have HB3 := Lib.hid (hbel.setCell (p := ⟨w2.heap.size, k, none⟩) (by show w.heap.size ≤ w2.heap.size; omega) (.int .i64 1))
      have HBY := Lib.hid ((heap_setCell_other wr ⟨w2.heap.size, k, none⟩ w.heap.size (.int .i64 1) (by dsimp only; omega)).trans hby)
      clear hown hbel hby g3 hx
      go_wp2_with fail
      go_roundw
      case rel => exact ⟨k + 1, by omega, by go_num, HN.out, HB3.out, HBY.out⟩
      case measure => simp [intOf]; omega
    · obtain rfl : k = l.states.length := by omega
      rw [fillV_all' (by simp)] at hown
      have HO := Lib.hid hown
      have HB3 := Lib.hid hbel
      have HBY := Lib.hid hby
      clear hown hbel hby
      go_wp2_with fail
      go_loopw [8, 10] (fun cv nn ws => ∃ (k g : Nat), k ≤ m ∧ nn = .int .i64 k ∧ cv = .slice (some ⟨g, 0, none⟩) l.states.length l.states.length ∧ ws.ownsRow w.heap.size 3 1 (.slice (some ⟨g, 0, none⟩) l.states.length l.states.length) l.states.length (ints (roundC l k)) ∧ Below w.heap.size w ws ∧ ws.heap[w.heap.size]? = some (.cells #[.slice A l.states.length c, .slice B l.steps.length d] 32))
        (fun _ nn _ => m - (intOf nn).toNat)
      case atStart => exact ⟨0, w2.heap.size, Nat.zero_le _, rfl, rfl, HO.out, HB3.out, HBY.out⟩
      case round =>
        clear HO HB3 HBY
        obtain ⟨k, g, hk, rfl, rfl, hown, hbel, hby⟩ := hrel
        obtain ⟨ws, hwss⟩ : ∃ ws, ws = wr := ⟨_, rfl⟩
        subst hwss
        by_cases hlt : k < m
        · have hlr := round_len l k
          have hlen0 : (List.replicate l.states.length (0 : Int)).length = l.states.length := by simp
          have hws2 : w.heap.size < ws.heap.size := by have := (Array.getElem?_eq_some_iff.1 hby).1; exact this
          go_wp2_with (first | (at_make; refine wpList_make_full _ rfl _ _ 41 rfl ws.heap.size 3 i0 _ 1 Try.underlying41 hi hz0 hz1' _ _ _ _ l.states.length rfl rfl rfl rfl (by rw [hz2']; omega) (by unfold maxLen; omega) (Nat.le_refl _) ?_; intro w4 hown4 hgrow) | fail)
          rw [ifill_start _ _ hlen0] at hown4
          have hb4 : Below ws.heap.size ws w4 := (Below.refl _ _).grown hgrow (Nat.le_refl _) (by simp)
          have hnx : fillV (List.replicate l.states.length (0 : Int)) 0 0 = List.replicate l.states.length 0 := by simp [fillV]
          rw [hnx] at hown4
          have hown4 := owns_mono hown4 hbel.size
          have hg : g < ws.heap.size := (hown.lt g rfl).2
          have hcn := owns_below hown hb4 (Nat.le_refl _)
          have hby4 := (hb4.block w.heap.size hws2).trans hby
          have hbel4 := hbel.trans (hb4.mono hbel.size)
          clear hgrow hnx hown hby hb4
          go_loopw [12] (fun i wi => ∃ j : Nat, j ≤ l.steps.length ∧ i = .int .i64 j ∧ wi.ownsRow w.heap.size 3 1 (.slice (some ⟨ws.heap.size, 0, none⟩) l.states.length l.states.length) l.states.length (ints ((l.steps.take j).foldl (bump (roundC l k)) (List.replicate l.states.length 0))) ∧ wi.ownsRow w.heap.size 3 1 (.slice (some ⟨g, 0, none⟩) l.states.length l.states.length) l.states.length (ints (roundC l k)) ∧ Below w.heap.size w wi ∧ wi.heap[w.heap.size]? = some (.cells #[.slice A l.states.length c, .slice B l.steps.length d] 32))
            (fun i _ => l.steps.length - (intOf i).toNat)
          case atStart => exact ⟨0, Nat.zero_le _, rfl, hown4, hcn, hbel4, hby4⟩
          case round =>
            clear hown4 hcn hbel4 hby4
            obtain ⟨j, hj, rfl, hnow, hcn, hbel4, hby4⟩ := hrel
            obtain ⟨wi, hwii⟩ : ∃ wi, wi = wr := ⟨_, rfl⟩
            subst hwii
            have b1 := cell_of_row _ w.heap.size 1 _ _ _ hby4
            by_cases hlj : j < l.steps.length
            · obtain ⟨bb, oo, cc, ee, h0, h1, h2⟩ := (HT.out wi hbel4).at_ (List.getElem?_eq_getElem hlj)
              cases ee
              obtain ⟨pp, qq, hp, hq, hpn, hqn⟩ := HG.out _ (List.getElem_mem hlj)
              have hstep := fold_next (counts := roundC l k) (nx := List.replicate l.states.length 0) (List.getElem?_eq_getElem hlj)
              have hfl := fold_len (roundC l k) (l.steps.take j) (List.replicate l.states.length 0)
              have hfi := fold_in (round_in l k) (l.steps.take j) _ (rep_in l.states.length 0 (by omega) (by omega))
              rw [List.length_replicate] at hfl
              have hpt : l.steps[j].1.toNat = pp := by omega
              have hqt : l.steps[j].2.2.toNat = qq := by omega
              have hbmp : ∀ nx, bump (roundC l k) nx l.steps[j] = nx.set pp (minI (nx.getD pp 0 + (roundC l k).getD qq 0) 1000000001) := fun nx => by unfold bump; rw [hpt, hqt]
              rw [hbmp] at hstep
              clear hbmp
              rw [hp] at h0
              rw [hq] at h2
              have hxa := hfi.at_ pp
              have hxb := (round_in l k).at_ qq
              have hna : ((l.steps.take j).foldl (bump (roundC l k)) (List.replicate l.states.length 0))[pp]? = some (((l.steps.take j).foldl (bump (roundC l k)) (List.replicate l.states.length 0)).getD pp 0) := by simp [List.getD, List.getElem?_eq_getElem (show pp < ((l.steps.take j).foldl (bump (roundC l k)) (List.replicate l.states.length 0)).length by rw [hfl]; exact hpn)]
              have hnb : (roundC l k)[qq]? = some ((roundC l k).getD qq 0) := by simp [List.getD, List.getElem?_eq_getElem (show qq < (roundC l k).length by rw [round_len]; exact hqn)]
              have HSTEP := Lib.hid hstep
              clear hstep hp hq hpt hqt hfi
              generalize ((l.steps.take j).foldl (bump (roundC l k)) (List.replicate l.states.length 0)) = nx at *
              generalize hya : nx.getD pp 0 = ya at *
              generalize hyb : (roundC l k).getD qq 0 = yb at *
              obtain ⟨n1, n2, n3⟩ := irow_cell hnow hfl hpn hna (minI (ya + yb) 1000000001)
              obtain ⟨m1', _, _⟩ := irow_cell hcn hlr hqn hnb 0
              have hgl := (hcn.lt g rfl).2
              have HN := Lib.hid n3
              have HCN := Lib.hid (owns_other (p := ⟨ws.heap.size, pp, none⟩) (u := .int .i64 (minI (ya + yb) 1000000001)) hcn (by dsimp only; omega))
              have HB4 := Lib.hid (hbel4.drew.setCell (p := ⟨ws.heap.size, pp, none⟩) (by show w.heap.size ≤ ws.heap.size; omega) (.int .i64 (minI (ya + yb) 1000000001)))
              have HBY4 := Lib.hid ((heap_setCell_other wi ⟨ws.heap.size, pp, none⟩ w.heap.size (.int .i64 (minI (ya + yb) 1000000001)) (by dsimp only; omega)).trans hby4)
              have hw : IntKind.i64.wrap (ya + yb) = ya + yb := IntWalk.i64_in _ (by omega)
              clear hnow hcn hbel4 hby4 n3 hna hnb hya hyb
              generalize l.steps[j] = s at *
              have b0' : (0 : Int) ≤ (j : Int) := by omega
              have b1' : (j : Int) < (l.steps.length : Int) := by omega
              have b2' : (0 : Int) ≤ (pp : Int) := by omega
              have b3' : (pp : Int) < (l.states.length : Int) := by omega
              have b4' : (0 : Int) ≤ (qq : Int) := by omega
              have b5' : (qq : Int) < (l.states.length : Int) := by omega
              have HLL := Lib.hid (l1Least_any (ya + yb) 1000000001 wi.drew)
              go_wp2_with fail
              refine wp_region_still_tail 28 (by kernel_rfl) (by kernel_rfl) ?_
              simp only [List.take_succ_cons, List.take_zero, List.drop_succ_cons, List.drop_zero]
              repeat (first | still_step | still_call HLL.out)
              refine wpStill_nil ?_
              clear hw
              change wpList _ _ _ _ _ wi.drew
              rw [← HSTEP.out] at HN
              go_wp2_with fail
              go_roundw
              case rel => exact ⟨j + 1, by omega, by go_num, HN.out, HCN.out, HB4.out, HBY4.out⟩
              case measure => simp [intOf]; omega
            · obtain rfl : j = l.steps.length := by omega
              rw [List.take_length] at hnow
              have HNX := Lib.hid (show _ = roundC l (k + 1) from by rw [roundC, stepC, hlr])
              rw [show (l.steps.foldl (bump (roundC l k)) (List.replicate l.states.length 0)) = roundC l (k + 1) by rw [roundC, stepC, hlr]] at hnow
              have HO := Lib.hid hnow
              have HB4 := Lib.hid hbel4
              have HBY4 := Lib.hid hby4
              clear hnow hcn hbel4 hby4 HNX
              go_wp2_with fail
              go_roundw
              case rel => exact ⟨k + 1, ws.heap.size, by omega, by go_num, rfl, HO.out, HB4.out, HBY4.out⟩
              case measure => simp [intOf]; omega
        · obtain rfl : k = m := by omega
          have hval : (roundC l k)[ps]? = some ((roundC l k).getD ps 0) := by simp [List.getD, List.getElem?_eq_getElem (show ps < (roundC l k).length by rw [round_len]; exact hpl)]
          obtain ⟨g1, _, _⟩ := irow_cell hown (round_len l k) hpl hval 0
          have hin2 := (round_in l k).at_ ps
          have HE1 := Lib.hid (show countOk l (ps : Int) (k : Int) = !(decide (1000000000 < (roundC l k).getD ps 0)) by simp [countOk, HOK.out, HIB.out])
          have HE2 := Lib.hid (show countR l (ps : Int) (k : Int) = if countOk l (ps : Int) (k : Int) then (roundC l k).getD ps 0 else 0 by simp [countR])
          have HB4 := Lib.hid hbel
          generalize (roundC l k).getD ps 0 = y at *
          clear hown hby hval hbel
          by_cases hy : (1000000000 : Int) < y
          · have e1 : decide (1000000000 < y) = true := by simp [hy]
            rw [e1] at HE1
            clear e1
            go_wp2_with fail
            go_ret2
            exact ⟨by rw [HE2.out, HE1.out]; rfl, HB4.out⟩
          · have e1 : decide (1000000000 < y) = false := by simp [hy]
            rw [e1] at HE1
            clear e1
            go_wp2_with fail
            go_ret2
            exact ⟨by rw [HE2.out, HE1.out]; rfl, HB4.out⟩

set_option maxRecDepth 100000 in
set_option maxHeartbeats 16000000 in
theorem implCountWays_any (v : Value) (l : Sys) (p len : Int) (w : World) (hs : SmallSys l) (hv : RSys w v l) :
    Calls Try.prog 21 #[v, .int .i64 p, .int .i64 len] w fun e w' => e = .returned (.tuple #[.int .i64 (countR l p len), .bool (countOk l p len)]) ∧ Below w.heap.size w w' := by
  obtain ⟨i0, hi, hz0, hz1', hz2'⟩ := info_parts info_ri
  have hb1 : ∀ o, Below w.heap.size w (w.alloc o) := fun o => (Below.refl _ _).alloc (Nat.le_refl _) o
  have HV := Lib.hid (show ∀ W, Below w.heap.size w W → RSys W v l from fun W hb => hv.below hb)
  have HB := Lib.hid hb1
  obtain ⟨sv, tv, rfl, hsv, htv⟩ := hv
  obtain ⟨A, c, rfl, _⟩ := hsv.form
  have HT := Lib.hid (show ∀ W, Below w.heap.size w W → RA3 W tv l.steps from fun W hb => htv.below hb)
  obtain ⟨B, d, rfl, _, _⟩ := htv
  clear hsv hb1
  have H1 := Lib.hid (fun o => isSystem_any _ l (w.alloc o) hs (HV.out _ (HB.out o)))
  have HIN := Lib.hid (fun n lo hi W => within_any n lo hi W)
  have hsn := hs.2
  have hsm := hs.1
  have hnoR : countOk l p len = false → countR l p len = 0 := fun h => by simp [countR, h]
  cases hg : goodSys l
  · have E1 := Lib.hid (show countOk l p len = false by simp [countOk, okState, hg])
    have E2 := Lib.hid (hnoR E1.out)
    rw [hg] at H1
    clear hg
    go_enter Try.func21, Try.ntmps21
    go_wp2_with fail
    refine (H1.out _).mono ?_
    rintro e w1 ⟨rfl, hw1⟩
    have hz1 := (HB.out _).trans (hw1.mono (HB.out _).size)
    clear hw1
    go_wp2_with fail
    go_ret2
    exact ⟨by rw [E1.out, E2.out]; rfl, hz1⟩
  rw [hg] at H1
  cases hst : stateB l p
  · have E1 := Lib.hid (show countOk l p len = false by simp [countOk, okState, hst])
    have E2 := Lib.hid (hnoR E1.out)
    clear hg
    go_enter Try.func21, Try.ntmps21
    go_wp2_with fail
    refine (H1.out _).mono ?_
    rintro e w1 ⟨rfl, hw1⟩
    have hz1 := (HB.out _).trans (hw1.mono (HB.out _).size)
    obtain ⟨bx, _⟩ := one_box hw1
    have x0 : w1.cell? ⟨w.heap.size, 0, none⟩ = some (.slice A l.states.length c) := cell_of_row _ _ _ _ _ _ bx
    have x1 : w1.cell? ⟨w.heap.size, 1, none⟩ = some (.slice B l.steps.length d) := cell_of_row _ _ _ _ _ _ bx
    clear hw1
    go_wp2_with fail
    refine (isState_any _ l p w1 hs (HV.out w1 hz1)).mono ?_
    rintro e w2 ⟨rfl, hw2⟩
    rw [hst]
    have hz2 := hz1.trans (hw2.mono hz1.size)
    clear hw2 bx x0 x1
    go_wp2_with fail
    go_ret2
    exact ⟨by rw [E1.out, E2.out]; rfl, hz2⟩
  cases hin : inB len 0 60
  · have E1 := Lib.hid (show countOk l p len = false by simp [countOk, hin])
    have E2 := Lib.hid (hnoR E1.out)
    clear hg
    go_enter Try.func21, Try.ntmps21
    go_wp2_with fail
    refine (H1.out _).mono ?_
    rintro e w1 ⟨rfl, hw1⟩
    have hz1 := (HB.out _).trans (hw1.mono (HB.out _).size)
    obtain ⟨bx, _⟩ := one_box hw1
    have x0 : w1.cell? ⟨w.heap.size, 0, none⟩ = some (.slice A l.states.length c) := cell_of_row _ _ _ _ _ _ bx
    have x1 : w1.cell? ⟨w.heap.size, 1, none⟩ = some (.slice B l.steps.length d) := cell_of_row _ _ _ _ _ _ bx
    clear hw1
    go_wp2_with fail
    refine (isState_any _ l p w1 hs (HV.out w1 hz1)).mono ?_
    rintro e w2 ⟨rfl, hw2⟩
    rw [hst]
    have hz2 := hz1.trans (hw2.mono hz1.size)
    have y0 := cell_below hw2 x0 (lt_of_cell x0)
    have y1 := cell_below hw2 x1 (lt_of_cell x1)
    have hby := (hw2.block w.heap.size (lt_of_cell x0)).trans bx
    clear hw2 x0 x1 bx
    go_wp2_with fail
    refine (HIN.out len 0 60 w2).mono ?_
    rintro e w2' ⟨rfl, rfl⟩
    rw [hin]
    go_wp2_with fail
    go_ret2
    exact ⟨by rw [E1.out, E2.out]; rfl, hz2⟩
  obtain ⟨l1, l2⟩ := good_len hg
  have HG := Lib.hid (good_steps hg)
  obtain ⟨m0, m1⟩ := inB_true hin
  obtain ⟨m, rfl⟩ := Int.eq_ofNat_of_zero_le m0
  have hpst := inB_true (show inB p 0 ((l.states.length : Int) - 1) = true from hst)
  obtain ⟨ps, rfl⟩ := Int.eq_ofNat_of_zero_le hpst.1
  have hpl : ps < l.states.length := by omega
  have HOK := Lib.hid (show okState l (ps : Int) = true by simp [okState, hg, hst])
  have HIB := Lib.hid hin
  clear hg
  go_enter Try.func21, Try.ntmps21
  go_wp2_with fail
  refine (H1.out _).mono ?_
  rintro e w1 ⟨rfl, hw1⟩
  have hz1 := (HB.out _).trans (hw1.mono (HB.out _).size)
  obtain ⟨bx, _⟩ := one_box hw1
  have x0 : w1.cell? ⟨w.heap.size, 0, none⟩ = some (.slice A l.states.length c) := cell_of_row _ _ _ _ _ _ bx
  have x1 : w1.cell? ⟨w.heap.size, 1, none⟩ = some (.slice B l.steps.length d) := cell_of_row _ _ _ _ _ _ bx
  clear hw1
  go_wp2_with fail
  refine (isState_any _ l (ps : Int) w1 hs (HV.out w1 hz1)).mono ?_
  rintro e w2 ⟨rfl, hw2⟩
  rw [hst]
  have hz2 := hz1.trans (hw2.mono hz1.size)
  have y0 := cell_below hw2 x0 (lt_of_cell x0)
  have y1 := cell_below hw2 x1 (lt_of_cell x1)
  have hby := (hw2.block w.heap.size (lt_of_cell x0)).trans bx
  clear hw2 x0 x1 bx
  go_wp2_with fail
  refine (HIN.out (m : Int) 0 60 w2).mono ?_
  rintro e w2' ⟨rfl, rfl⟩
  rw [hin]
  have hby2 := (show (w2.alloc (.cells #[.int .i64 1] 3)).heap[w.heap.size]? = _ from (heap_alloc_old _ _ (lt_of_cell y0)).trans hby)
  have hz3 : Below w.heap.size w (w2.alloc (.cells #[.int .i64 1] 3)) := hz2.alloc hz2.size _
  have hba : Below w2.heap.size w2 (w2.alloc (.cells #[.int .i64 1] 3)) := (Below.refl _ _).alloc (Nat.le_refl _) _
  have y0a := cell_below hba y0 (lt_of_cell y0)
  have y1a := cell_below hba y1 (lt_of_cell y1)
  have hone : Cells (w2.alloc (.cells #[.int .i64 1] 3)) (some ⟨w2.heap.size, 0, none⟩) (ints [1]) := by
    intro j u hj
    match j, hj with
    | 0, hj =>
      simp at hj
      subst hj
      exact ⟨_, _, rfl, cell_of_row _ _ _ _ _ _ (heap_alloc_new _ _)⟩
  have hws : w.heap.size < w2.heap.size := lt_of_cell y0
  have HREP := Lib.hid (repeat_any (some ⟨w2.heap.size, 0, none⟩) 1 1 l.states.length _ l1 l2 hone)
  have HBY2 := Lib.hid hby2
  clear hone hby hby2 y0 y1
  go_wp2_with fail
  refine HREP.out.mono ?_
  rintro e w3 ⟨v3, rfl, hown, hb3⟩
  have hsz3 := hb3.size
  rw [World.size_alloc] at hsz3
  obtain ⟨A3, c3, rfl, hown⟩ := owns_form hown
  obtain ⟨g3, rfl, hc3⟩ : ∃ g3, A3 = some ⟨g3, 0, none⟩ ∧ c3 = c3 := by
    rcases hown.2 with ⟨e, _⟩ | ⟨g', cap, cur, e, _⟩
    · injection e with _ e2 _
      omega
    · injection e with e1 _ _
      exact ⟨g', e1, rfl⟩
  have hown := owns_mono hown (show w.heap.size ≤ (w2.alloc (.cells #[.int .i64 1] 3)).heap.size by simp; omega)
  have hz4 := hz3.trans (hb3.mono (by simp; omega))
  have hby4 := (hb3.block w.heap.size (by simp; omega)).trans HBY2.out
  clear hb3 hz3 hba y0a y1a hc3
  go_wp2_with fail
  go_loopw [8, 32] (fun cv nn wr => ∃ (k g cc : Nat), k ≤ m ∧ nn = .int .i64 k ∧ cv = .slice (some ⟨g, 0, none⟩) l.states.length cc ∧ wr.ownsRow w.heap.size 3 1 (.slice (some ⟨g, 0, none⟩) l.states.length cc) l.states.length (ints (roundC l k)) ∧ Below w.heap.size w wr ∧ wr.heap[w.heap.size]? = some (.cells #[.slice A l.states.length c, .slice B l.steps.length d] 32))
    (fun _ nn _ => m - (intOf nn).toNat)
  case atStart => exact ⟨0, g3, c3, Nat.zero_le _, rfl, rfl, hown, hz4, hby4⟩
  case round =>
    clear hown hz4 hby4
    obtain ⟨k, g, cg, hk, rfl, rfl, hown, hbel, hby⟩ := hrel
    obtain ⟨ws, hwss⟩ : ∃ ws, ws = wr := ⟨_, rfl⟩
    subst hwss
    by_cases hlt : k < m
    · have hlr := round_len l k
      have hlen0 : (List.replicate l.states.length (0 : Int)).length = l.states.length := by simp
      have hws2 : w.heap.size < ws.heap.size := by have := (Array.getElem?_eq_some_iff.1 hby).1; exact this
      go_wp2_with (first | (at_make; refine wpList_make_full _ rfl _ _ 41 rfl ws.heap.size 3 i0 _ 1 Try.underlying41 hi hz0 hz1' _ _ _ _ l.states.length rfl rfl rfl rfl (by rw [hz2']; omega) (by unfold maxLen; omega) (Nat.le_refl _) ?_; intro w4 hown4 hgrow; have hb4x : Below ws.heap.size ws w4 := (Below.refl _ _).grown hgrow (Nat.le_refl _) (by simp); have b1x := cell_of_row w4 w.heap.size 1 _ _ _ ((hb4x.block w.heap.size hws2).trans hby)) | fail)
      rw [ifill_start _ _ hlen0] at hown4
      have hb4 : Below ws.heap.size ws w4 := (Below.refl _ _).grown hgrow (Nat.le_refl _) (by simp)
      have hnx : fillV (List.replicate l.states.length (0 : Int)) 0 0 = List.replicate l.states.length 0 := by simp [fillV]
      rw [hnx] at hown4
      have hown4 := owns_mono hown4 hbel.size
      have hg : g < ws.heap.size := (hown.lt g rfl).2
      have hcn := owns_below hown hb4 (Nat.le_refl _)
      have hby4 := (hb4.block w.heap.size hws2).trans hby
      have hbel4 := hbel.trans (hb4.mono hbel.size)
      clear hgrow hnx hown hby hb4 hb4x b1x
      go_loopw [40] (fun i wi => ∃ j : Nat, j ≤ l.steps.length ∧ i = .int .i64 j ∧ wi.ownsRow w.heap.size 3 1 (.slice (some ⟨ws.heap.size, 0, none⟩) l.states.length l.states.length) l.states.length (ints ((l.steps.take j).foldl (bump (roundC l k)) (List.replicate l.states.length 0))) ∧ wi.ownsRow w.heap.size 3 1 (.slice (some ⟨g, 0, none⟩) l.states.length cg) l.states.length (ints (roundC l k)) ∧ Below w.heap.size w wi ∧ wi.heap[w.heap.size]? = some (.cells #[.slice A l.states.length c, .slice B l.steps.length d] 32))
        (fun i _ => l.steps.length - (intOf i).toNat)
      case atStart => exact ⟨0, Nat.zero_le _, rfl, hown4, hcn, hbel4, hby4⟩
      case round =>
        clear hown4 hcn hbel4 hby4
        obtain ⟨j, hj, rfl, hnow, hcn, hbel4, hby4⟩ := hrel
        obtain ⟨wi, hwii⟩ : ∃ wi, wi = wr := ⟨_, rfl⟩
        subst hwii
        have b1 := cell_of_row _ w.heap.size 1 _ _ _ hby4
        by_cases hlj : j < l.steps.length
        · obtain ⟨bb, oo, cc, ee, h0, h1, h2⟩ := (HT.out wi hbel4).at_ (List.getElem?_eq_getElem hlj)
          cases ee
          obtain ⟨pp, qq, hp, hq, hpn, hqn⟩ := HG.out _ (List.getElem_mem hlj)
          have hstep := fold_next (counts := roundC l k) (nx := List.replicate l.states.length 0) (List.getElem?_eq_getElem hlj)
          have hfl := fold_len (roundC l k) (l.steps.take j) (List.replicate l.states.length 0)
          have hfi := fold_in (round_in l k) (l.steps.take j) _ (rep_in l.states.length 0 (by omega) (by omega))
          rw [List.length_replicate] at hfl
          have hpt : l.steps[j].1.toNat = pp := by omega
          have hqt : l.steps[j].2.2.toNat = qq := by omega
          have hbmp : ∀ nx, bump (roundC l k) nx l.steps[j] = nx.set pp (minI (nx.getD pp 0 + (roundC l k).getD qq 0) 1000000001) := fun nx => by unfold bump; rw [hpt, hqt]
          rw [hbmp] at hstep
          clear hbmp
          rw [hp] at h0
          rw [hq] at h2
          have hxa := hfi.at_ pp
          have hxb := (round_in l k).at_ qq
          have hna : ((l.steps.take j).foldl (bump (roundC l k)) (List.replicate l.states.length 0))[pp]? = some (((l.steps.take j).foldl (bump (roundC l k)) (List.replicate l.states.length 0)).getD pp 0) := by simp [List.getD, List.getElem?_eq_getElem (show pp < ((l.steps.take j).foldl (bump (roundC l k)) (List.replicate l.states.length 0)).length by rw [hfl]; exact hpn)]
          have hnb : (roundC l k)[qq]? = some ((roundC l k).getD qq 0) := by simp [List.getD, List.getElem?_eq_getElem (show qq < (roundC l k).length by rw [round_len]; exact hqn)]
          have HSTEP := Lib.hid hstep
          clear hstep hp hq hpt hqt hfi
          generalize ((l.steps.take j).foldl (bump (roundC l k)) (List.replicate l.states.length 0)) = nx at *
          generalize hya : nx.getD pp 0 = ya at *
          generalize hyb : (roundC l k).getD qq 0 = yb at *
          generalize l.steps[j] = s at *
          have hAl : Below wi.heap.size wi (wi.alloc (.cells #[.int .i64 pp, .int .i64 s.2.1, .int .i64 qq] 66)) := (Below.refl _ _).alloc (Nat.le_refl _) _
          have hbx := heap_alloc_new wi (.cells #[.int .i64 pp, .int .i64 s.2.1, .int .i64 qq] 66)
          have s0 := cell_of_row _ wi.heap.size 0 _ _ _ hbx
          have s2 := cell_of_row _ wi.heap.size 2 _ _ _ hbx
          have hwl : ws.heap.size < wi.heap.size := (hnow.lt _ rfl).2
          have hwz : w.heap.size < wi.heap.size := lt_of_cell b1
          have hnowA := owns_below hnow hAl (Nat.le_refl _)
          have hcnA := owns_below hcn hAl (Nat.le_refl _)
          have hbelA := hbel4.trans (hAl.mono hbel4.size)
          have hbyA := (hAl.block w.heap.size hwz).trans hby4
          obtain ⟨n1, n2, n3⟩ := irow_cell hnowA hfl hpn hna (minI (ya + yb) 1000000001)
          have m1' := icell_at hcnA hqn hnb
          have hgl := (hcnA.lt g rfl).2
          have HN := Lib.hid n3
          have HCN := Lib.hid (owns_other (p := ⟨ws.heap.size, pp, none⟩) (u := .int .i64 (minI (ya + yb) 1000000001)) hcnA (by dsimp only; omega))
          have HB4 := Lib.hid (hbelA.drew.setCell (p := ⟨ws.heap.size, pp, none⟩) (by show w.heap.size ≤ ws.heap.size; omega) (.int .i64 (minI (ya + yb) 1000000001)))
          have HBY4 := Lib.hid ((heap_setCell_other (wi.alloc (.cells #[.int .i64 pp, .int .i64 s.2.1, .int .i64 qq] 66)) ⟨ws.heap.size, pp, none⟩ w.heap.size (.int .i64 (minI (ya + yb) 1000000001)) (by dsimp only; omega)).trans hbyA)
          have hw : IntKind.i64.wrap (ya + yb) = ya + yb := IntWalk.i64_in _ (by omega)
          have hmin : min 1000000001 (ya + yb) = minI (ya + yb) 1000000001 := by unfold minI; omega
          clear hnow hcn hbel4 hby4 n3 hna hnb hya hyb hnowA hcnA hbelA hbyA hAl hbx
          have b0' : (0 : Int) ≤ (j : Int) := by omega
          have b1' : (j : Int) < (l.steps.length : Int) := by omega
          have b2' : (0 : Int) ≤ (pp : Int) := by omega
          have b3' : (pp : Int) < (l.states.length : Int) := by omega
          have b4' : (0 : Int) ≤ (qq : Int) := by omega
          have b5' : (qq : Int) < (l.states.length : Int) := by omega
          go_wp2_with fail
          generalize wi.alloc (.cells #[.int .i64 pp, .int .i64 s.2.1, .int .i64 qq] 66) = W at *
          refine wp_region_still_tail 16 (by kernel_rfl) (by kernel_rfl) ?_
          simp only [List.take_succ_cons, List.take_zero, List.drop_succ_cons, List.drop_zero]
          repeat (first | still_step)
          refine wpStill_nil ?_
          clear hw
          change wpList _ _ _ _ _ W.drew
          rw [← HSTEP.out] at HN
          go_wp2_with fail
          go_roundw
          case rel => exact ⟨j + 1, by omega, by go_num, HN.out, HCN.out, HB4.out, HBY4.out⟩
          case measure => simp [intOf]; omega
        · obtain rfl : j = l.steps.length := by omega
          rw [List.take_length] at hnow
          have HNX := Lib.hid (show _ = roundC l (k + 1) from by rw [roundC, stepC, hlr])
          rw [show (l.steps.foldl (bump (roundC l k)) (List.replicate l.states.length 0)) = roundC l (k + 1) by rw [roundC, stepC, hlr]] at hnow
          have HO := Lib.hid hnow
          have HB4 := Lib.hid hbel4
          have HBY4 := Lib.hid hby4
          clear hnow hcn hbel4 hby4 HNX
          go_wp2_with fail
          go_roundw
          case rel => exact ⟨k + 1, ws.heap.size, l.states.length, by omega, by go_num, rfl, HO.out, HB4.out, HBY4.out⟩
          case measure => simp [intOf]; omega
    · obtain rfl : k = m := by omega
      have hval : (roundC l k)[ps]? = some ((roundC l k).getD ps 0) := by simp [List.getD, List.getElem?_eq_getElem (show ps < (roundC l k).length by rw [round_len]; exact hpl)]
      have g1 := icell_at hown hpl hval
      have hin2 := (round_in l k).at_ ps
      have HE1 := Lib.hid (show countOk l (ps : Int) (k : Int) = !(decide (1000000000 < (roundC l k).getD ps 0)) by simp [countOk, HOK.out, HIB.out])
      have HE2 := Lib.hid (show countR l (ps : Int) (k : Int) = if countOk l (ps : Int) (k : Int) then (roundC l k).getD ps 0 else 0 by simp [countR])
      have HB4 := Lib.hid hbel
      generalize (roundC l k).getD ps 0 = y at *
      clear hown hby hval hbel
      by_cases hy : (1000000000 : Int) < y
      · have e1 : decide (1000000000 < y) = true := by simp [hy]
        rw [e1] at HE1
        clear e1
        go_wp2_with fail
        go_ret2
        exact ⟨by rw [HE2.out, HE1.out]; rfl, HB4.out⟩
      · have e1 : decide (1000000000 < y) = false := by simp [hy]
        rw [e1] at HE1
        clear e1
        go_wp2_with fail
        go_ret2
        exact ⟨by rw [HE2.out, HE1.out]; rfl, HB4.out⟩

end Go.Proofs.Yteljknidcaoeoaa
