/- The draws of a bigraph: how it is harmed, now and then. -/
import Derived.Test.YtijkdpdmclkmlaaGreatDoorProg
import Derived.Test.YtijkdpdmclkmlaaGreatDoorJ0
import Derived.Test.YtijkdpdmclkmlaaGreatDoorJ4
import Derived.Test.YtijkdpdmclkmlaaGreatDoorJ17
import Derived.Deep.CutBlock
set_option linter.unusedSimpArgs false
set_option linter.unusedVariables false
set_option maxRecDepth 100000
set_option maxHeartbeats 16000000
namespace Go.Proofs.YtijkdpdmclkmlaaGreatDoor
open Go.RowKit
theorem el_nodG : El Tryz.prog 27 88 3 40 := El.mk' Tryz.underlying27 (by kernel_rfl : _ = some (some (.agg #[.int .i64 0, .int .i64 0, .slice none 0 0]), 3, 40)) rfl (by decide)
theorem el_wiG : El Tryz.prog 29 90 2 24 := El.mk' Tryz.underlying29 (by kernel_rfl : _ = some (some (.agg #[.string ⟨#[]⟩, .int .i64 0]), 2, 24)) rfl (by decide)
theorem l1MostG_any (a b : Int) (w : World) :
  Calls Tryz.prog 209 #[.int .i64 a, .int .i64 b] w fun e w' => e = .returned (.int .i64 (if b < a then a else b)) ∧ w = w' := by
 by_cases h : b < a
 ·rw [if_pos h]
  go_enter Tryz.func209, Tryz.ntmps209
  go_wp2
  go_ret
  exact ⟨rfl, rfl⟩
 rw [if_neg h]
 go_enter Tryz.func209, Tryz.ntmps209
 go_wp2
 go_ret
 exact ⟨rfl, rfl⟩

theorem harmed_any (p B P0 C : Nat) (A : Option Addr) (bs : List Int) (c K : Nat) (X : BX) (AN AS AO AI : Option Addr) (cN cS cO cI : Nat) (w0 w : World) (h : GS w0 p B P0 C A bs c true X.cells X K w)
  (hN : X.nv = .slice AN X.ns.length cN) (hS : X.sv = .slice AS X.ss.length cS) (hO : X.ov = .slice AO X.os.length cO) (hI : X.iv = .slice AI X.is.length cI) (hs : SX X) (hK : K ≤ 10000000000000) (hpB : p < B) (hBC : B ≤ C) (hCw : C ≤ w.heap.size) :
  Calls Tryz.prog 210 #[.pointer (some ⟨p, 0, none⟩), .agg #[.int .i64 X.r, .slice AN X.ns.length cN, .slice AS X.ss.length cS, .int .i64 X.e, .slice AO X.os.length cO, .slice AI X.is.length cI]] w fun e w' => ∃ nv sv ov iv g, e = .returned (.agg #[.int .i64 g.roots, nv, sv, .int .i64 g.edges, ov, iv]) ∧ RKS B w' nv sv ov iv g ∧ SmallG g ∧ Cur w' p A bs c (K + 3100) ∧ Kept (fun q => q = p ∨ B ≤ q) w w' := by
 have hpP : p < w.heap.size := h.cur.lt
 obtain ⟨w1, hw1, hb1, hs1, -, hR1⟩ := laid2 w (.cells #[.int .i64 X.r, .slice AN X.ns.length cN, .slice AS X.ss.length cS, .int .i64 X.e, .slice AO X.os.length cO, .slice AI X.is.length cI] 31) (.cells #[.int .i64 0, .slice none 0 0, .slice none 0 0, .int .i64 0, .slice none 0 0, .slice none 0 0] 31)
 have hbx : w1.heap[w.heap.size]? = some (.cells X.cells 31) := by
  rw [hw1, BX.cells, hN, hS, hO, hI]; exact (heap_alloc_old _ _ (by simp)).trans (heap_alloc_new _ _)
 have HG1 := Lib.hid (show GR w1 p B w.heap.size C A bs c true X.cells X K w1 from ⟨{ h.lay hb1 with k := Kept.refl _ _, box := hbx }, hR1⟩)
 have HB1 := Lib.hid hb1
 have HR1 := Lib.hid hR1
 have HW1 := Lib.hid hw1
 have HX := Lib.hid hs
 have hnl := hs.nl
 have hsl := hs.sl
 have hol := hs.ol
 have hil := hs.il
 have HNV := Lib.hid hN
 have HSV := Lib.hid hS
 have HOV := Lib.hid hO
 have HIV := Lib.hid hI
 obtain ⟨mo, hmo, hmo1, hmo2⟩ : ∃ mo : Int, (if (1 : Int) < (X.ns.length : Int) then (X.ns.length : Int) else 1) = mo ∧ 1 ≤ mo ∧ mo ≤ 100 ∧ (0 < X.ns.length → mo = X.ns.length) := by
  split
  ·exact ⟨_, rfl, by omega, by omega, fun _ => rfl⟩
  exact ⟨_, rfl, by omega, by omega, by omega⟩
 have HMO := Lib.hid (show ∀ W, Calls Tryz.prog 209 #[.int .i64 (X.ns.length : Int), .int .i64 1] W fun e w' => e = .returned (.int .i64 mo) ∧ W = w' from fun W => by have h := l1MostG_any (X.ns.length : Int) 1 W; rw [hmo] at h; exact h)
 have HP1 := Lib.hid (pick_any p A bs c K mo w1 HG1.out.g.cur (by omega) (by omega))
 have x1 := HG1.out.g.cell (f := 1) (u := X.nv) rfl
 rw [hN] at x1
 clear h hw1 hb1 hbx hR1 hs hmo hN hS hO hI
 go_enter Tryz.func210, Tryz.ntmps210
 go_wp2_with fail
 rw [← HW1.out] at *
 have z0 := x1
 go_wp2_with fail
 (with_reducible refine (HMO.out w1).mono ?_)
 rintro e w' ⟨rfl, rfl⟩
 go_wp2_with fail
 (with_reducible refine HP1.out.mono ?_)
 rintro e w2 ⟨kvi, rfl, hk0, hk1, hC2, hK2⟩
 obtain ⟨kv, rfl⟩ := Int.eq_ofNat_of_zero_le hk0
 have hkv : 0 < X.ns.length → kv < X.ns.length := fun h => by have h1 := hk1 hmo1; have h2 := hmo2.2 h; omega
 have hkv2 : kv ≤ 100 := by have h1 := hk1 hmo1; omega
 have HG2 := Lib.hid (HG1.out.draw hpB hBC hpP hK2 hC2)
 have HKV := Lib.hid hkv
 have HP2 := Lib.hid (pick_any p A bs c (K + 2) 60 w2 HG2.out.g.cur (by omega) (by omega))
 clear hK2 hC2 hk1 hmo1 hmo2 hkv x1 z0 hk0
 go_wp2_with fail
 (with_reducible refine HP2.out.mono ?_)
 rintro e w3 ⟨sw, rfl, hsw0, hsw1, hC3, hK3⟩
 have hsw2 := hsw1 (by omega)
 have HG3 := Lib.hid (HG2.out.draw hpB hBC hpP hK3 hC3)
 clear hK3 hC3 hsw1 HG2 HP2
 go_upto_block 0 with fail
 go_cut [] from 5 (fun wx => HR w1 p B w.heap.size A bs c (K + 3000) wx)
 case first =>
  have hsw := hsw2
  rcases (show sw = 0 ∨ sw = 1 ∨ sw = 2 ∨ sw = 3 ∨ sw = 4 ∨ sw = 5 ∨ sw = 6 ∨ sw = 7 ∨ sw = 8 ∨ sw = 9 ∨ 10 ≤ sw by omega) with rfl | rfl | rfl | rfl | rfl | rfl | rfl | rfl | rfl | rfl | hsw3
  ·obtain ⟨w4, hw4⟩ : ∃ w4, w4 = w3.alloc (.cells #[.int .i64 (-1), .int .i64 0, .int .i64 4, .int .i64 5] 3) := ⟨_, rfl⟩
   have hg4 : GR w1 p B w.heap.size C A bs c true X.cells X (K + 2 + 2) w4 := by rw [hw4]; exact HG3.out.alloc _
   have hc4 : w4.heap[w3.heap.size]? = some (.cells (ints [-1, 0, 4, 5]).toArray 3) := by rw [hw4]; exact heap_alloc_new _ _
   have hlt3 := HG3.out.g.lt
   have HA4 := Lib.hid (show Calls Tryz.prog 88 #[.pointer (some ⟨p, 0, none⟩), .slice (some ⟨w3.heap.size, 0, none⟩) 4 4] w4 _ from among_any p A bs c (K + 2 + 2) (some ⟨w3.heap.size, 0, none⟩) 4 [-1, 0, 4, 5] w4 hg4.g.cur (by omega) (by decide) (by decide) (cellsG hc4) (fun b o e => by cases e; omega))
   have HG4 := Lib.hid hg4
   have HW4 := Lib.hid hw4
   clear hg4 hc4 hw4 hlt3
   go_wp2_with fail
   rw [← HW4.out]
   (with_reducible refine HA4.out.mono ?_)
   rintro e w5 ⟨rr, rfl, hrr, hC5, hK5⟩
   have hrb : -100 ≤ rr ∧ rr ≤ 100 := by
    simp only [List.mem_cons, List.not_mem_nil, or_false] at hrr
    rcases hrr with rfl | rfl | rfl | rfl <;> decide
   have HG5 := Lib.hid (HG4.out.draw hpB hBC hpP hK5 hC5)
   have s0 := HG5.out.g.cell (f := 0) (u := .int .i64 X.r) rfl
   have f0 := frozen_of_row w5 w.heap.size 0 _ _ HG5.out.g.box
   have HG6 := Lib.hid (show GR w1 p B w.heap.size C A bs c true (BX.cells { X with r := rr }) { X with r := rr } (K + 2 + 2 + 2) (w5.setCell ⟨w.heap.size, 0, none⟩ (.int .i64 rr)) from
    let h := HG5.out.put hpB hpP 0 (.int .i64 rr)
    ⟨{ h.g with }, h.rb⟩)
   clear hC5 hK5 hrr
   go_wp2_with fail
   go_meet
   case rel => exact HG6.out.hd hBC (HX.out.r' hrb) (by omega)
  ·obtain ⟨w4, hw4⟩ : ∃ w4, w4 = w3.alloc (.cells #[.int .i64 (-1), .int .i64 0, .int .i64 8, .int .i64 9] 3) := ⟨_, rfl⟩
   have hg4 : GR w1 p B w.heap.size C A bs c true X.cells X (K + 2 + 2) w4 := by rw [hw4]; exact HG3.out.alloc _
   have hc4 : w4.heap[w3.heap.size]? = some (.cells (ints [-1, 0, 8, 9]).toArray 3) := by rw [hw4]; exact heap_alloc_new _ _
   have hlt3 := HG3.out.g.lt
   have HA4 := Lib.hid (show Calls Tryz.prog 88 #[.pointer (some ⟨p, 0, none⟩), .slice (some ⟨w3.heap.size, 0, none⟩) 4 4] w4 _ from among_any p A bs c (K + 2 + 2) (some ⟨w3.heap.size, 0, none⟩) 4 [-1, 0, 8, 9] w4 hg4.g.cur (by omega) (by decide) (by decide) (cellsG hc4) (fun b o e => by cases e; omega))
   have HG4 := Lib.hid hg4
   have HW4 := Lib.hid hw4
   clear hg4 hc4 hw4 hlt3
   go_wp2_with fail
   rw [← HW4.out]
   (with_reducible refine HA4.out.mono ?_)
   rintro e w5 ⟨rr, rfl, hrr, hC5, hK5⟩
   have hrb : -100 ≤ rr ∧ rr ≤ 100 := by
    simp only [List.mem_cons, List.not_mem_nil, or_false] at hrr
    rcases hrr with rfl | rfl | rfl | rfl <;> decide
   have HG5 := Lib.hid (HG4.out.draw hpB hBC hpP hK5 hC5)
   have s0 := HG5.out.g.cell (f := 3) (u := .int .i64 X.e) rfl
   have f0 := frozen_of_row w5 w.heap.size 3 _ _ HG5.out.g.box
   have HG6 := Lib.hid (show GR w1 p B w.heap.size C A bs c true (BX.cells { X with e := rr }) { X with e := rr } (K + 2 + 2 + 2) (w5.setCell ⟨w.heap.size, 3, none⟩ (.int .i64 rr)) from
    let h := HG5.out.put hpB hpP 3 (.int .i64 rr)
    ⟨{ h.g with }, h.rb⟩)
   clear hC5 hK5 hrr
   go_wp2_with fail
   go_meet
   case rel => exact HG6.out.hd hBC (HX.out.e' hrb) (by omega)
  ·go_wp2_with fail
   refine wp_region_dc (by kernel_rfl) (fun L act W => ∃ (g3 : Nat) (y4 : ByteArray) (g5 : Nat) (v : Value), act = ⟨#[.pointer (some ⟨p, 0, none⟩), .agg #[.int .i64 X.r, .slice AN X.ns.length cN, .slice AS X.ss.length cS, .int .i64 X.e, .slice AO X.os.length cO, .slice AI X.is.length cI], undef, .pointer (some ⟨w.heap.size, 0, none⟩), .pointer (some ⟨w.heap.size + 1, 0, none⟩), .int .i64 (kv : Int), undef, .pointer (some ⟨p, 0, none⟩), .pointer (some ⟨w.heap.size, 1, none⟩), .slice AN X.ns.length cN, .int .i64 (X.ns.length : Int), .int .i64 mo, .int .i64 (kv : Int), .pointer (some ⟨p, 0, none⟩), .int .i64 2, .bool false, .bool false, undef, undef, undef, undef, .bool false, .bool false, undef, undef, undef, undef, .bool true, .bool true, bsel (L 0) (.pointer (some ⟨w.heap.size, 4, none⟩)) (undef), bsel (L 1) (X.ov) (undef), bsel (L 2) (.pointer (some ⟨p, 0, none⟩)) (undef), bsel (L 3) (.slice (some ⟨g3, 0, none⟩) 5 5) (undef), bsel (L 4) (.string y4) (undef), bsel (L 5) (.slice (some ⟨g5, 0, none⟩) 1 1) (undef), bsel (L 6) (v) (undef), bsel (L 7) (.pointer (some ⟨w.heap.size, 4, none⟩)) (undef), undef, undef, undef, undef, undef, undef, undef, undef, undef, undef, undef, undef, undef, undef, undef, undef, undef, undef, undef, undef, undef, undef, undef, undef, undef, undef, undef, undef, undef, undef, undef, undef, undef, undef, undef, undef, undef, undef, undef, undef, undef, undef, undef, undef, undef, undef, undef, undef, undef, undef, undef, undef, undef, undef, undef, undef, undef, undef, undef, undef, undef, undef, undef, undef, undef, undef, undef, undef, undef, undef, undef, undef, undef, undef, undef, undef, undef, undef, undef, undef, undef, undef, undef, undef, undef, undef, undef, undef, undef, undef, undef, undef, undef, undef, undef, undef, undef, undef, undef, undef, undef, undef, undef, undef, undef, undef, undef, undef, undef, undef, undef, undef, undef, undef, undef, undef, undef, undef, undef, undef, undef, undef, undef, undef], []⟩ ∧ RF p C (K + 2 + 2) 9 6 8 (fun K2 W => GR w1 p B w.heap.size C A bs c true X.cells X K2 W) (fun v W => GR w1 p B w.heap.size C A bs c true X.cells { X with ov := v, os := X.os ++ [y4] } (K + 100) W) (fun W => HR w1 p B w.heap.size A bs c (K + 3000) W) [(3, g3, .cells #[.string ⟨#[97]⟩, .string ⟨#[122]⟩, .string ⟨#[]⟩, .string ⟨#[97, 98, 99, 100, 101]⟩, .string ⟨#[66]⟩] 9), (5, g5, .cells #[.string y4] 9)] L v W ∧ (L 4 = true → y4.size ≤ 100)) ?h10 ?s1t ?f1i
   case h10 => exact ⟨0, default, 0, undef, rfl, RF.start (HG3.out.drew), fun h => (nomatch h)⟩
   case s1t =>
    intro L act W q oo hJ hC hL ho hd K3 hK3
    obtain ⟨g3, y4, g5, v, rfl, hF, hR4⟩ := hJ
    match q, ho with
    | 0, ho | 2, ho | 7, ho =>
     cases ho
     simp [Region.binds] at hd
     try simp only [hd, bsel_t]
     have HF := Lib.hid hF
     clear hF hC
     have HR4 := Lib.hid hR4
     clear hR4
     go_simp
     exact hK3 _ _ ⟨g3, y4, g5, v, by first | (simp [upd, bsel]; done) | simp [upd, bsel, hd], HF.out.pure hL (by decide) (by decide) (by simp), by simpa [upd] using HR4.out⟩
    | 1, ho =>
     cases ho
     simp [Region.binds] at hd
     have n6 : L 6 = false := dc_no hC hL (by kernel_rfl)
     obtain ⟨K2, hK2, hD⟩ := hF.d n6
     have s0 := hD.g.cell (f := 4) (u := X.ov) rfl
     clear hD hK2
     try simp only [hd, bsel_t]
     have HF := Lib.hid hF
     clear hF hC
     have HR4 := Lib.hid hR4
     clear hR4
     go_simp
     exact hK3 _ _ ⟨g3, y4, g5, v, by first | (simp [upd, bsel]; done) | (simp [upd, bsel, n6]; done) | simp [upd, bsel, hd, n6], HF.out.pure hL (by decide) (by decide) (by simp), by simpa [upd] using HR4.out⟩
    | 3, ho =>
     cases ho
     simp [Region.binds] at hd
     have n6 : L 6 = false := dc_no hC hL (by kernel_rfl)
     try simp only [hd, bsel_t]
     have HF := Lib.hid hF
     clear hF hC
     have HR4 := Lib.hid hR4
     clear hR4
     go_simp
     exact hK3 _ _ ⟨W.heap.size, y4, g5, v, by first | (simp [upd, bsel]; done) | (simp [upd, bsel, n6]; done) | simp [upd, bsel, hd, n6], HF.out.lit hL n6 (by decide) (by decide) (by simp) (fun K2 h => by have := h.g.k.size; omega) (fun K2 h => h.alloc _), by simpa [upd] using HR4.out⟩
    | 4, ho =>
     cases ho
     simp [Region.binds] at hd
     have n5 : L 5 = false := dc_no hC hL (by kernel_rfl)
     have n6 : L 6 = false := dc_no hC hL (by kernel_rfl)
     obtain ⟨K2, hK2, hD⟩ := hF.d n6
     have l3 : L 3 = true := by simp [hd]
     obtain ⟨hg1, hg2⟩ := hF.li n6 (3, g3, .cells #[.string ⟨#[97]⟩, .string ⟨#[122]⟩, .string ⟨#[]⟩, .string ⟨#[97, 98, 99, 100, 101]⟩, .string ⟨#[66]⟩] 9) (by simp) l3
     try simp only [hd, bsel_t]
     have HF := Lib.hid hF
     clear hF hC
     have HR4 := Lib.hid hR4
     clear hR4
     have HD := Lib.hid hD
     clear hD
     go_simp
     go_at_call 113
     refine (ofG_any p A bs c K2 g3 5 [⟨#[97]⟩, ⟨#[122]⟩, ⟨#[]⟩, ⟨#[97, 98, 99, 100, 101]⟩, ⟨#[66]⟩] W HD.out.g.cur (by have := cnt_le L 20; have := cnt_le L 17; have := cnt_le L 14; have := cnt_le L 13; have := cnt_le L 12; have := cnt_le L 9; omega) (by decide) (by decide) (cellsG hg2) (by have h1 : C ≤ g3 := hg1; omega)).mono ?_
     rintro e W' ⟨y4', rfl, hy, hC', hk'⟩
     go_simp
     exact hK3 _ _ ⟨g3, y4', g5, v, by first | (simp [upd, bsel]; done) | (simp [upd, bsel, n5, n6]; done) | simp [upd, bsel, hd, n5, n6], HF.out.draw2 (by decide) hL n6 (by decide) (by decide) (by simp [n5]) (K2 := K2 + 2) (by omega) (by omega) (HD.out.draw hpB hBC hpP hk' hC') hk', fun _ => (by simp only [List.mem_cons, List.not_mem_nil, or_false] at hy; rcases hy with rfl | rfl | rfl | rfl | rfl <;> decide)⟩
    | 5, ho =>
     cases ho
     simp [Region.binds] at hd
     have n6 : L 6 = false := dc_no hC hL (by kernel_rfl)
     try simp only [hd, bsel_t]
     have HF := Lib.hid hF
     clear hF hC
     have HR4 := Lib.hid hR4
     clear hR4
     go_simp
     exact hK3 _ _ ⟨g3, y4, W.heap.size, v, by first | (simp [upd, bsel]; done) | (simp [upd, bsel, n6]; done) | simp [upd, bsel, hd, n6], HF.out.lit hL n6 (by decide) (by decide) (by simp) (fun K2 h => by have := h.g.k.size; omega) (fun K2 h => h.alloc _), by simpa [upd] using HR4.out⟩
    | 6, ho =>
     cases ho
     simp [Region.binds] at hd
     obtain ⟨K2, hK2, hD⟩ := hF.d hL
     have l5 : L 5 = true := by simp [hd]
     obtain ⟨hg1, hg2⟩ := hF.li hL (5, g5, .cells #[.string y4] 9) (by simp) l5
     simp only [hd, bsel_t]
     have HF := Lib.hid hF
     clear hF hC
     have HR4 := Lib.hid hR4
     clear hR4
     refine step_appR el_strG rfl (.tmp 30) (.tmp 34) rfl B (X.ov) X.os.length (strs X.os) (by rfl) (hD.g.O) ⟨g5, 0, none⟩ 1 1 [.string y4] (by rfl) rfl (fun j' u' hj' => by rw [show (⟨g5, 0, none⟩ : Addr).add j' = ⟨g5, j', none⟩ from by simp [Addr.add, eq_comm], cell_of_row W g5 _ _ _ _ hg2]; simpa using hj') (one1 rfl) (by unfold maxLen; omega) (by omega) (by have := hD.g.k.size; omega) ?_
     intro v' W' ho hg
     have HE := Lib.hid ((hD.appO hpB ho (kept_of_grown hg)).mono (K' := K + 100) (by have := cnt_le L 9; omega))
     clear ho hg hD
     go_simp
     exact hK3 _ _ ⟨g3, y4, g5, v', by first | (simp [upd, bsel]; done) | simp [upd, bsel, hd], HF.out.app hL (by decide) HE.out, by simpa [upd] using HR4.out⟩
    | 8, ho =>
     cases ho
     simp [Region.binds] at hd
     have l6 : L 6 = true := by simp [hd]
     have c6 := hC 6 _ rfl l6
     simp [Region.binds] at c6
     have l5 : L 5 = true := by simp [c6]
     have c5 := hC 5 _ rfl l5
     simp [Region.binds] at c5
     have l4 : L 4 = true := by simp [c5]
     have lA : L 6 = true := by simp [hd]
     have hE := hF.e lA hL
     obtain ⟨Av, cv, rfl, _⟩ := owns_form (show W.ownsRow B 9 1 v (X.os.length + 1) (strs (X.os ++ [y4])) from (by have h := hE.g.O; simp only [List.length_append, List.length_cons, List.length_nil] at h; exact h))
     have s0 := hE.g.cell (f := 4) (u := X.ov) rfl
     have f0 := frozen_of_row W w.heap.size 4 _ _ hE.g.box
     have HFF := Lib.hid (show HR w1 p B w.heap.size A bs c (K + 3000) (W.setCell ⟨w.heap.size, 4, none⟩ (.slice Av (X.os.length + 1) cv)) from GR.hd (X := { X with ov := .slice Av (X.os.length + 1) cv, os := X.os ++ [y4] }) (hE.put hpB hpP 4 (.slice Av (X.os.length + 1) cv)) hBC (HX.out.o' (hR4 l4)) (by omega))
     clear hE
     try simp only [hd, bsel_t]
     have HF := Lib.hid hF
     clear hF hC
     have HR4 := Lib.hid hR4
     clear hR4
     go_simp
     exact hK3 _ _ ⟨g3, y4, g5, (.slice Av (X.os.length + 1) cv), by first | (simp [upd, bsel]; done) | simp [upd, bsel, hd], HF.out.store lA (by decide) HFF.out, by simpa [upd] using HR4.out⟩
    | q + 9, ho => simp at ho
   intro L act W hJ hfin
   obtain ⟨g3, y4, g5, v, rfl, hF, hR4⟩ := hJ
   have ll := fin_all 9 (by kernel_rfl) hfin
   have l0 := ll 0 (by decide)
   have l1 := ll 1 (by decide)
   have l2 := ll 2 (by decide)
   have l3 := ll 3 (by decide)
   have l4 := ll 4 (by decide)
   have l5 := ll 5 (by decide)
   have l6 := ll 6 (by decide)
   have l7 := ll 7 (by decide)
   have l8 := ll 8 (by decide)
   simp only [l0, l1, l2, l3, l4, l5, l6, l7, l8, bsel_t]
   have HR4 := Lib.hid (hR4 l4)
   have HFIN := Lib.hid (hF.f l8)
   clear hF hfin l0 l1 l2 l3 l4 l5 l6 l7 l8 hR4
   have HF2 := Lib.hid HFIN.out
   clear HFIN
   go_wp2_with fail
   go_meet
   case rel => exact HF2.out
  ·go_wp2_with fail
   refine wp_region_dc (by kernel_rfl) (fun L act W => ∃ (g3 : Nat) (y4 : Int) (g5 : Nat) (v : Value), act = ⟨#[.pointer (some ⟨p, 0, none⟩), .agg #[.int .i64 X.r, .slice AN X.ns.length cN, .slice AS X.ss.length cS, .int .i64 X.e, .slice AO X.os.length cO, .slice AI X.is.length cI], undef, .pointer (some ⟨w.heap.size, 0, none⟩), .pointer (some ⟨w.heap.size + 1, 0, none⟩), .int .i64 (kv : Int), undef, .pointer (some ⟨p, 0, none⟩), .pointer (some ⟨w.heap.size, 1, none⟩), .slice AN X.ns.length cN, .int .i64 (X.ns.length : Int), .int .i64 mo, .int .i64 (kv : Int), .pointer (some ⟨p, 0, none⟩), .int .i64 3, .bool false, .bool false, undef, undef, undef, undef, .bool false, .bool false, undef, undef, undef, undef, .bool false, .bool false, undef, undef, undef, undef, undef, undef, undef, undef, .bool true, .bool true, bsel (L 0) (.pointer (some ⟨w.heap.size, 2, none⟩)) (undef), bsel (L 1) (X.sv) (undef), bsel (L 2) (.pointer (some ⟨p, 0, none⟩)) (undef), bsel (L 3) (.slice (some ⟨g3, 0, none⟩) 5 5) (undef), bsel (L 4) (.int .i64 y4) (undef), bsel (L 5) (.slice (some ⟨g5, 0, none⟩) 1 1) (undef), bsel (L 6) (v) (undef), bsel (L 7) (.pointer (some ⟨w.heap.size, 2, none⟩)) (undef), undef, undef, undef, undef, undef, undef, undef, undef, undef, undef, undef, undef, undef, undef, undef, undef, undef, undef, undef, undef, undef, undef, undef, undef, undef, undef, undef, undef, undef, undef, undef, undef, undef, undef, undef, undef, undef, undef, undef, undef, undef, undef, undef, undef, undef, undef, undef, undef, undef, undef, undef, undef, undef, undef, undef, undef, undef, undef, undef, undef, undef, undef, undef, undef, undef, undef, undef, undef, undef, undef, undef, undef, undef, undef, undef, undef, undef, undef, undef, undef, undef, undef, undef, undef, undef, undef, undef, undef, undef, undef, undef, undef, undef, undef, undef, undef, undef, undef, undef, undef, undef, undef, undef, undef, undef, undef, undef, undef, undef, undef, undef, undef, undef, undef], []⟩ ∧ RF p C (K + 2 + 2) 9 6 8 (fun K2 W => GR w1 p B w.heap.size C A bs c true X.cells X K2 W) (fun v W => GR w1 p B w.heap.size C A bs c true X.cells { X with sv := v, ss := X.ss ++ [y4] } (K + 100) W) (fun W => HR w1 p B w.heap.size A bs c (K + 3000) W) [(3, g3, .cells #[.int .i64 (-1), .int .i64 (-4), .int .i64 7, .int .i64 8, .int .i64 0] 3), (5, g5, .cells #[.int .i64 y4] 3)] L v W ∧ (L 4 = true → -9223372036854775808 ≤ y4)) ?h20 ?s2t ?f2i
   case h20 => exact ⟨0, 0, 0, undef, rfl, RF.start (HG3.out.drew), fun h => (nomatch h)⟩
   case s2t =>
    intro L act W q oo hJ hC hL ho hd K3 hK3
    obtain ⟨g3, y4, g5, v, rfl, hF, hR4⟩ := hJ
    match q, ho with
    | 0, ho | 2, ho | 7, ho =>
     cases ho
     simp [Region.binds] at hd
     try simp only [hd, bsel_t]
     have HF := Lib.hid hF
     clear hF hC
     have HR4 := Lib.hid hR4
     clear hR4
     go_simp
     exact hK3 _ _ ⟨g3, y4, g5, v, by first | (simp [upd, bsel]; done) | simp [upd, bsel, hd], HF.out.pure hL (by decide) (by decide) (by simp), by simpa [upd] using HR4.out⟩
    | 1, ho =>
     cases ho
     simp [Region.binds] at hd
     have n6 : L 6 = false := dc_no hC hL (by kernel_rfl)
     obtain ⟨K2, hK2, hD⟩ := hF.d n6
     have s0 := hD.g.cell (f := 2) (u := X.sv) rfl
     clear hD hK2
     try simp only [hd, bsel_t]
     have HF := Lib.hid hF
     clear hF hC
     have HR4 := Lib.hid hR4
     clear hR4
     go_simp
     exact hK3 _ _ ⟨g3, y4, g5, v, by first | (simp [upd, bsel]; done) | (simp [upd, bsel, n6]; done) | simp [upd, bsel, hd, n6], HF.out.pure hL (by decide) (by decide) (by simp), by simpa [upd] using HR4.out⟩
    | 3, ho =>
     cases ho
     simp [Region.binds] at hd
     have n6 : L 6 = false := dc_no hC hL (by kernel_rfl)
     try simp only [hd, bsel_t]
     have HF := Lib.hid hF
     clear hF hC
     have HR4 := Lib.hid hR4
     clear hR4
     go_simp
     exact hK3 _ _ ⟨W.heap.size, y4, g5, v, by first | (simp [upd, bsel]; done) | (simp [upd, bsel, n6]; done) | simp [upd, bsel, hd, n6], HF.out.lit hL n6 (by decide) (by decide) (by simp) (fun K2 h => by have := h.g.k.size; omega) (fun K2 h => h.alloc _), by simpa [upd] using HR4.out⟩
    | 4, ho =>
     cases ho
     simp [Region.binds] at hd
     have n5 : L 5 = false := dc_no hC hL (by kernel_rfl)
     have n6 : L 6 = false := dc_no hC hL (by kernel_rfl)
     obtain ⟨K2, hK2, hD⟩ := hF.d n6
     have l3 : L 3 = true := by simp [hd]
     obtain ⟨hg1, hg2⟩ := hF.li n6 (3, g3, .cells #[.int .i64 (-1), .int .i64 (-4), .int .i64 7, .int .i64 8, .int .i64 0] 3) (by simp) l3
     try simp only [hd, bsel_t]
     have HF := Lib.hid hF
     clear hF hC
     have HR4 := Lib.hid hR4
     clear hR4
     have HD := Lib.hid hD
     clear hD
     go_simp
     go_at_call 88
     refine (among_any p A bs c K2 (some ⟨g3, 0, none⟩) 5 [-1, -4, 7, 8, 0] W HD.out.g.cur (by have := cnt_le L 20; have := cnt_le L 14; have := cnt_le L 13; have := cnt_le L 12; have := cnt_le L 9; omega) (by simp) (by simp) (cellsG hg2) (fun b o e => by cases e; have h1 : C ≤ g3 := hg1; omega)).mono ?_
     rintro e W' ⟨y4', rfl, hy, hC', hk'⟩
     go_simp
     exact hK3 _ _ ⟨g3, y4', g5, v, by first | (simp [upd, bsel]; done) | (simp [upd, bsel, n5, n6]; done) | simp [upd, bsel, hd, n5, n6], HF.out.draw2 (by decide) hL n6 (by decide) (by decide) (by simp [n5]) (K2 := K2 + 2) (by omega) (by omega) (HD.out.draw hpB hBC hpP hk' hC') hk', fun _ => (by simp only [List.mem_cons, List.not_mem_nil, or_false] at hy; rcases hy with rfl | rfl | rfl | rfl | rfl <;> decide)⟩
    | 5, ho =>
     cases ho
     simp [Region.binds] at hd
     have n6 : L 6 = false := dc_no hC hL (by kernel_rfl)
     try simp only [hd, bsel_t]
     have HF := Lib.hid hF
     clear hF hC
     have HR4 := Lib.hid hR4
     clear hR4
     go_simp
     exact hK3 _ _ ⟨g3, y4, W.heap.size, v, by first | (simp [upd, bsel]; done) | (simp [upd, bsel, n6]; done) | simp [upd, bsel, hd, n6], HF.out.lit hL n6 (by decide) (by decide) (by simp) (fun K2 h => by have := h.g.k.size; omega) (fun K2 h => h.alloc _), by simpa [upd] using HR4.out⟩
    | 6, ho =>
     cases ho
     simp [Region.binds] at hd
     obtain ⟨K2, hK2, hD⟩ := hF.d hL
     have l5 : L 5 = true := by simp [hd]
     obtain ⟨hg1, hg2⟩ := hF.li hL (5, g5, .cells #[.int .i64 y4] 3) (by simp) l5
     simp only [hd, bsel_t]
     have HF := Lib.hid hF
     clear hF hC
     have HR4 := Lib.hid hR4
     clear hR4
     refine step_appR el_intG rfl (.tmp 40) (.tmp 44) rfl C (X.sv) X.ss.length (ints X.ss) (by rfl) (hD.g.S) ⟨g5, 0, none⟩ 1 1 [.int .i64 y4] (by rfl) rfl (fun j' u' hj' => by rw [show (⟨g5, 0, none⟩ : Addr).add j' = ⟨g5, j', none⟩ from by simp [Addr.add, eq_comm], cell_of_row W g5 _ _ _ _ hg2]; simpa using hj') (one1 rfl) (by unfold maxLen; omega) (by omega) (by have := hD.g.k.size; omega) ?_
     intro v' W' ho hg
     have HE := Lib.hid ((hD.appS hpB hBC ho (kept_of_grown hg)).mono (K' := K + 100) (by have := cnt_le L 9; omega))
     clear ho hg hD
     go_simp
     exact hK3 _ _ ⟨g3, y4, g5, v', by first | (simp [upd, bsel]; done) | simp [upd, bsel, hd], HF.out.app hL (by decide) HE.out, by simpa [upd] using HR4.out⟩
    | 8, ho =>
     cases ho
     simp [Region.binds] at hd
     have l6 : L 6 = true := by simp [hd]
     have c6 := hC 6 _ rfl l6
     simp [Region.binds] at c6
     have l5 : L 5 = true := by simp [c6]
     have c5 := hC 5 _ rfl l5
     simp [Region.binds] at c5
     have l4 : L 4 = true := by simp [c5]
     have lA : L 6 = true := by simp [hd]
     have hE := hF.e lA hL
     obtain ⟨Av, cv, rfl, _⟩ := owns_form (show W.ownsRow C 3 1 v (X.ss.length + 1) (ints (X.ss ++ [y4])) from (by have h := hE.g.S; simp only [List.length_append, List.length_cons, List.length_nil] at h; exact h))
     have s0 := hE.g.cell (f := 2) (u := X.sv) rfl
     have f0 := frozen_of_row W w.heap.size 2 _ _ hE.g.box
     have HFF := Lib.hid (show HR w1 p B w.heap.size A bs c (K + 3000) (W.setCell ⟨w.heap.size, 2, none⟩ (.slice Av (X.ss.length + 1) cv)) from GR.hd (X := { X with sv := .slice Av (X.ss.length + 1) cv, ss := X.ss ++ [y4] }) (hE.put hpB hpP 2 (.slice Av (X.ss.length + 1) cv)) hBC (HX.out.s' (hR4 l4)) (by omega))
     clear hE
     try simp only [hd, bsel_t]
     have HF := Lib.hid hF
     clear hF hC
     have HR4 := Lib.hid hR4
     clear hR4
     go_simp
     exact hK3 _ _ ⟨g3, y4, g5, (.slice Av (X.ss.length + 1) cv), by first | (simp [upd, bsel]; done) | simp [upd, bsel, hd], HF.out.store lA (by decide) HFF.out, by simpa [upd] using HR4.out⟩
    | q + 9, ho => simp at ho
   intro L act W hJ hfin
   obtain ⟨g3, y4, g5, v, rfl, hF, hR4⟩ := hJ
   have ll := fin_all 9 (by kernel_rfl) hfin
   have l0 := ll 0 (by decide)
   have l1 := ll 1 (by decide)
   have l2 := ll 2 (by decide)
   have l3 := ll 3 (by decide)
   have l4 := ll 4 (by decide)
   have l5 := ll 5 (by decide)
   have l6 := ll 6 (by decide)
   have l7 := ll 7 (by decide)
   have l8 := ll 8 (by decide)
   simp only [l0, l1, l2, l3, l4, l5, l6, l7, l8, bsel_t]
   have HR4 := Lib.hid (hR4 l4)
   have HFIN := Lib.hid (hF.f l8)
   clear hF hfin l0 l1 l2 l3 l4 l5 l6 l7 l8 hR4
   have HF2 := Lib.hid HFIN.out
   clear HFIN
   go_wp2_with fail
   go_meet
   case rel => exact HF2.out
  ·go_wp2_with fail
   refine wp_region_dc (by kernel_rfl) (fun L act W => ∃ (g3 : Nat) (y4 : ByteArray) (g6 : Nat) (y7 : Int) (g9 : Nat) (v : Value), act = ⟨#[.pointer (some ⟨p, 0, none⟩), .agg #[.int .i64 X.r, .slice AN X.ns.length cN, .slice AS X.ss.length cS, .int .i64 X.e, .slice AO X.os.length cO, .slice AI X.is.length cI], undef, .pointer (some ⟨w.heap.size, 0, none⟩), .pointer (some ⟨w.heap.size + 1, 0, none⟩), .int .i64 (kv : Int), undef, .pointer (some ⟨p, 0, none⟩), .pointer (some ⟨w.heap.size, 1, none⟩), .slice AN X.ns.length cN, .int .i64 (X.ns.length : Int), .int .i64 mo, .int .i64 (kv : Int), .pointer (some ⟨p, 0, none⟩), .int .i64 4, .bool false, .bool false, undef, undef, undef, undef, .bool false, .bool false, undef, undef, undef, undef, .bool false, .bool false, undef, undef, undef, undef, undef, undef, undef, undef, .bool false, .bool false, undef, undef, undef, undef, undef, undef, undef, undef, .bool true, .bool true, bsel (L 0) (.pointer (some ⟨w.heap.size, 5, none⟩)) (undef), bsel (L 1) (X.iv) (undef), bsel (L 2) (.pointer (some ⟨p, 0, none⟩)) (undef), bsel (L 3) (.slice (some ⟨g3, 0, none⟩) 2 2) (undef), bsel (L 4) (.string y4) (undef), bsel (L 5) (.pointer (some ⟨p, 0, none⟩)) (undef), bsel (L 6) (.slice (some ⟨g6, 0, none⟩) 3 3) (undef), bsel (L 7) (.int .i64 y7) (undef), bsel (L 8) (.agg #[.string y4, .int .i64 y7]) (undef), bsel (L 9) (.slice (some ⟨g9, 0, none⟩) 1 1) (undef), bsel (L 10) (v) (undef), bsel (L 11) (.pointer (some ⟨w.heap.size, 5, none⟩)) (undef), undef, undef, undef, undef, undef, undef, undef, undef, undef, undef, undef, undef, undef, undef, undef, undef, undef, undef, undef, undef, undef, undef, undef, undef, undef, undef, undef, undef, undef, undef, undef, undef, undef, undef, undef, undef, undef, undef, undef, undef, undef, undef, undef, undef, undef, undef, undef, undef, undef, undef, undef, undef, undef, undef, undef, undef, undef, undef, undef, undef, undef, undef, undef, undef, undef, undef, undef, undef, undef, undef, undef, undef, undef, undef, undef, undef, undef, undef, undef, undef, undef, undef, undef, undef, undef, undef, undef, undef, undef, undef, undef, undef, undef, undef, undef, undef, undef, undef, undef, undef], []⟩ ∧ RF p C (K + 2 + 2) 13 10 12 (fun K2 W => GR w1 p B w.heap.size C A bs c true X.cells X K2 W) (fun v W => GR w1 p B w.heap.size C A bs c true X.cells { X with iv := v, is := X.is ++ [((y4, y7) : Wi)] } (K + 100) W) (fun W => HR w1 p B w.heap.size A bs c (K + 3000) W) [(3, g3, .cells #[.string ⟨#[97]⟩, .string ⟨#[122]⟩] 9), (6, g6, .cells #[.int .i64 (-1), .int .i64 0, .int .i64 9] 3), (9, g9, .cells #[.string y4, .int .i64 y7] 90)] L v W ∧ (L 4 = true → y4.size ≤ 100) ∧ (L 7 = true → -100 ≤ y7)) ?h30 ?s3t ?f3i
   case h30 => exact ⟨0, default, 0, 0, 0, undef, rfl, RF.start (HG3.out.drew), fun h => (nomatch h), fun h => (nomatch h)⟩
   case s3t =>
    intro L act W q oo hJ hC hL ho hd K3 hK3
    obtain ⟨g3, y4, g6, y7, g9, v, rfl, hF, hR4, hR7⟩ := hJ
    match q, ho with
    | 0, ho | 2, ho | 5, ho | 8, ho | 11, ho =>
     cases ho
     simp [Region.binds] at hd
     try simp only [hd, bsel_t]
     have HF := Lib.hid hF
     clear hF hC
     have HR4 := Lib.hid hR4
     clear hR4
     have HR7 := Lib.hid hR7
     clear hR7
     go_simp
     exact hK3 _ _ ⟨g3, y4, g6, y7, g9, v, by first | (simp [upd, bsel]; done) | simp [upd, bsel, hd], HF.out.pure hL (by decide) (by decide) (by simp), by simpa [upd] using HR4.out, by simpa [upd] using HR7.out⟩
    | 1, ho =>
     cases ho
     simp [Region.binds] at hd
     have n10 : L 10 = false := dc_no hC hL (by kernel_rfl)
     obtain ⟨K2, hK2, hD⟩ := hF.d n10
     have s0 := hD.g.cell (f := 5) (u := X.iv) rfl
     clear hD hK2
     try simp only [hd, bsel_t]
     have HF := Lib.hid hF
     clear hF hC
     have HR4 := Lib.hid hR4
     clear hR4
     have HR7 := Lib.hid hR7
     clear hR7
     go_simp
     exact hK3 _ _ ⟨g3, y4, g6, y7, g9, v, by first | (simp [upd, bsel]; done) | (simp [upd, bsel, n10]; done) | simp [upd, bsel, hd, n10], HF.out.pure hL (by decide) (by decide) (by simp), by simpa [upd] using HR4.out, by simpa [upd] using HR7.out⟩
    | 3, ho =>
     cases ho
     simp [Region.binds] at hd
     have n10 : L 10 = false := dc_no hC hL (by kernel_rfl)
     try simp only [hd, bsel_t]
     have HF := Lib.hid hF
     clear hF hC
     have HR4 := Lib.hid hR4
     clear hR4
     have HR7 := Lib.hid hR7
     clear hR7
     go_simp
     exact hK3 _ _ ⟨W.heap.size, y4, g6, y7, g9, v, by first | (simp [upd, bsel]; done) | (simp [upd, bsel, n10]; done) | simp [upd, bsel, hd, n10], HF.out.lit hL n10 (by decide) (by decide) (by simp) (fun K2 h => by have := h.g.k.size; omega) (fun K2 h => h.alloc _), by simpa [upd] using HR4.out, by simpa [upd] using HR7.out⟩
    | 4, ho =>
     cases ho
     simp [Region.binds] at hd
     have n8 : L 8 = false := dc_no hC hL (by kernel_rfl)
     have n9 : L 9 = false := dc_no hC hL (by kernel_rfl)
     have n10 : L 10 = false := dc_no hC hL (by kernel_rfl)
     obtain ⟨K2, hK2, hD⟩ := hF.d n10
     have l3 : L 3 = true := by simp [hd]
     obtain ⟨hg1, hg2⟩ := hF.li n10 (3, g3, .cells #[.string ⟨#[97]⟩, .string ⟨#[122]⟩] 9) (by simp) l3
     try simp only [hd, bsel_t]
     have HF := Lib.hid hF
     clear hF hC
     have HR4 := Lib.hid hR4
     clear hR4
     have HR7 := Lib.hid hR7
     clear hR7
     have HD := Lib.hid hD
     clear hD
     go_simp
     go_at_call 113
     refine (ofG_any p A bs c K2 g3 2 [⟨#[97]⟩, ⟨#[122]⟩] W HD.out.g.cur (by have := cnt_le L 20; have := cnt_le L 17; have := cnt_le L 14; have := cnt_le L 13; have := cnt_le L 12; have := cnt_le L 9; omega) (by decide) (by decide) (cellsG hg2) (by have h1 : C ≤ g3 := hg1; omega)).mono ?_
     rintro e W' ⟨y4', rfl, hy, hC', hk'⟩
     go_simp
     exact hK3 _ _ ⟨g3, y4', g6, y7, g9, v, by first | (simp [upd, bsel]; done) | (simp [upd, bsel, n8, n9, n10]; done) | simp [upd, bsel, hd, n8, n9, n10], HF.out.draw2 (by decide) hL n10 (by decide) (by decide) (by simp [n9]) (K2 := K2 + 2) (by omega) (by omega) (HD.out.draw hpB hBC hpP hk' hC') hk', fun _ => (by simp only [List.mem_cons, List.not_mem_nil, or_false] at hy; rcases hy with rfl | rfl <;> decide), by simpa [upd] using HR7.out⟩
    | 6, ho =>
     cases ho
     simp [Region.binds] at hd
     have n10 : L 10 = false := dc_no hC hL (by kernel_rfl)
     try simp only [hd, bsel_t]
     have HF := Lib.hid hF
     clear hF hC
     have HR4 := Lib.hid hR4
     clear hR4
     have HR7 := Lib.hid hR7
     clear hR7
     go_simp
     exact hK3 _ _ ⟨g3, y4, W.heap.size, y7, g9, v, by first | (simp [upd, bsel]; done) | (simp [upd, bsel, n10]; done) | simp [upd, bsel, hd, n10], HF.out.lit hL n10 (by decide) (by decide) (by simp) (fun K2 h => by have := h.g.k.size; omega) (fun K2 h => h.alloc _), by simpa [upd] using HR4.out, by simpa [upd] using HR7.out⟩
    | 7, ho =>
     cases ho
     simp [Region.binds] at hd
     have n8 : L 8 = false := dc_no hC hL (by kernel_rfl)
     have n9 : L 9 = false := dc_no hC hL (by kernel_rfl)
     have n10 : L 10 = false := dc_no hC hL (by kernel_rfl)
     obtain ⟨K2, hK2, hD⟩ := hF.d n10
     have l6 : L 6 = true := by simp [hd]
     obtain ⟨hg1, hg2⟩ := hF.li n10 (6, g6, .cells #[.int .i64 (-1), .int .i64 0, .int .i64 9] 3) (by simp) l6
     try simp only [hd, bsel_t]
     have HF := Lib.hid hF
     clear hF hC
     have HR4 := Lib.hid hR4
     clear hR4
     have HR7 := Lib.hid hR7
     clear hR7
     have HD := Lib.hid hD
     clear hD
     go_simp
     go_at_call 88
     refine (among_any p A bs c K2 (some ⟨g6, 0, none⟩) 3 [-1, 0, 9] W HD.out.g.cur (by have := cnt_le L 20; have := cnt_le L 14; have := cnt_le L 13; have := cnt_le L 12; have := cnt_le L 9; omega) (by simp) (by simp) (cellsG hg2) (fun b o e => by cases e; have h1 : C ≤ g6 := hg1; omega)).mono ?_
     rintro e W' ⟨y7', rfl, hy, hC', hk'⟩
     go_simp
     exact hK3 _ _ ⟨g3, y4, g6, y7', g9, v, by first | (simp [upd, bsel]; done) | (simp [upd, bsel, n8, n9, n10]; done) | simp [upd, bsel, hd, n8, n9, n10], HF.out.draw2 (by decide) hL n10 (by decide) (by decide) (by simp [n9]) (K2 := K2 + 2) (by omega) (by omega) (HD.out.draw hpB hBC hpP hk' hC') hk', by simpa [upd] using HR4.out, fun _ => (by simp only [List.mem_cons, List.not_mem_nil, or_false] at hy; rcases hy with rfl | rfl | rfl <;> decide)⟩
    | 9, ho =>
     cases ho
     simp [Region.binds] at hd
     have n10 : L 10 = false := dc_no hC hL (by kernel_rfl)
     try simp only [hd, bsel_t]
     have HF := Lib.hid hF
     clear hF hC
     have HR4 := Lib.hid hR4
     clear hR4
     have HR7 := Lib.hid hR7
     clear hR7
     go_simp
     exact hK3 _ _ ⟨g3, y4, g6, y7, W.heap.size, v, by first | (simp [upd, bsel]; done) | (simp [upd, bsel, n10]; done) | simp [upd, bsel, hd, n10], HF.out.lit hL n10 (by decide) (by decide) (by simp) (fun K2 h => by have := h.g.k.size; omega) (fun K2 h => h.alloc _), by simpa [upd] using HR4.out, by simpa [upd] using HR7.out⟩
    | 10, ho =>
     cases ho
     simp [Region.binds] at hd
     obtain ⟨K2, hK2, hD⟩ := hF.d hL
     have l9 : L 9 = true := by simp [hd]
     obtain ⟨hg1, hg2⟩ := hF.li hL (9, g9, .cells #[.string y4, .int .i64 y7] 90) (by simp) l9
     simp only [hd, bsel_t]
     have HF := Lib.hid hF
     clear hF hC
     have HR4 := Lib.hid hR4
     clear hR4
     have HR7 := Lib.hid hR7
     clear hR7
     refine step_appR el_wiG rfl (.tmp 50) (.tmp 58) rfl B (X.iv) X.is.length (X.is.flatMap encWi) (by rfl) (hD.g.I) ⟨g9, 0, none⟩ 1 1 [.string y4, .int .i64 y7] (by rfl) rfl (fun j' u' hj' => by rw [show (⟨g9, 0, none⟩ : Addr).add j' = ⟨g9, j', none⟩ from by simp [Addr.add, eq_comm], cell_of_row W g9 _ _ _ _ hg2]; simpa using hj') (by intro u hu; simp at hu; rcases hu with rfl | rfl <;> rfl) (by unfold maxLen; omega) (by omega) (by have := hD.g.k.size; omega) ?_
     intro v' W' ho hg
     have HE := Lib.hid ((hD.appI (x := (y4, y7)) hpB ho (kept_of_grown hg)).mono (K' := K + 100) (by have := cnt_le L 13; omega))
     clear ho hg hD
     go_simp
     exact hK3 _ _ ⟨g3, y4, g6, y7, g9, v', by first | (simp [upd, bsel]; done) | simp [upd, bsel, hd], HF.out.app hL (by decide) HE.out, by simpa [upd] using HR4.out, by simpa [upd] using HR7.out⟩
    | 12, ho =>
     cases ho
     simp [Region.binds] at hd
     have l10 : L 10 = true := by simp [hd]
     have c10 := hC 10 _ rfl l10
     simp [Region.binds] at c10
     have l9 : L 9 = true := by simp [c10]
     have c9 := hC 9 _ rfl l9
     simp [Region.binds] at c9
     have l8 : L 8 = true := by simp [c9]
     have c8 := hC 8 _ rfl l8
     simp [Region.binds] at c8
     have l4 : L 4 = true := by simp [c8]
     have lA : L 10 = true := by simp [hd]
     have hE := hF.e lA hL
     obtain ⟨Av, cv, rfl, _⟩ := owns_form (show W.ownsRow B 90 2 v (X.is.length + 1) ((X.is ++ [((y4, y7) : Wi)]).flatMap encWi) from (by have h := hE.g.I; simp only [List.length_append, List.length_cons, List.length_nil] at h; exact h))
     have s0 := hE.g.cell (f := 5) (u := X.iv) rfl
     have f0 := frozen_of_row W w.heap.size 5 _ _ hE.g.box
     have HFF := Lib.hid (show HR w1 p B w.heap.size A bs c (K + 3000) (W.setCell ⟨w.heap.size, 5, none⟩ (.slice Av (X.is.length + 1) cv)) from GR.hd (X := { X with iv := .slice Av (X.is.length + 1) cv, is := X.is ++ [((y4, y7) : Wi)] }) (hE.put hpB hpP 5 (.slice Av (X.is.length + 1) cv)) hBC (HX.out.i' (hR4 l4)) (by omega))
     clear hE
     try simp only [hd, bsel_t]
     have HF := Lib.hid hF
     clear hF hC
     have HR4 := Lib.hid hR4
     clear hR4
     have HR7 := Lib.hid hR7
     clear hR7
     go_simp
     exact hK3 _ _ ⟨g3, y4, g6, y7, g9, (.slice Av (X.is.length + 1) cv), by first | (simp [upd, bsel]; done) | simp [upd, bsel, hd], HF.out.store lA (by decide) HFF.out, by simpa [upd] using HR4.out, by simpa [upd] using HR7.out⟩
    | q + 13, ho => simp at ho
   intro L act W hJ hfin
   obtain ⟨g3, y4, g6, y7, g9, v, rfl, hF, hR4, hR7⟩ := hJ
   have ll := fin_all 13 (by kernel_rfl) hfin
   have l0 := ll 0 (by decide)
   have l1 := ll 1 (by decide)
   have l2 := ll 2 (by decide)
   have l3 := ll 3 (by decide)
   have l4 := ll 4 (by decide)
   have l5 := ll 5 (by decide)
   have l6 := ll 6 (by decide)
   have l7 := ll 7 (by decide)
   have l8 := ll 8 (by decide)
   have l9 := ll 9 (by decide)
   have l10 := ll 10 (by decide)
   have l11 := ll 11 (by decide)
   have l12 := ll 12 (by decide)
   simp only [l0, l1, l2, l3, l4, l5, l6, l7, l8, l9, l10, l11, l12, bsel_t]
   have HR4 := Lib.hid (hR4 l4)
   have HR7 := Lib.hid (hR7 l7)
   have HFIN := Lib.hid (hF.f l12)
   clear hF hfin l0 l1 l2 l3 l4 l5 l6 l7 l8 l9 l10 l11 l12 hR4 hR7
   have HF2 := Lib.hid HFIN.out
   clear HFIN
   go_wp2_with fail
   go_meet
   case rel => exact HF2.out
  ·obtain ⟨AV, cV, hnv, _⟩ := owns_form HG3.out.g.N.own
   have x1 := HG3.out.g.cell (f := 1) (u := X.nv) rfl
   rw [hnv] at x1
   clear hnv
   by_cases hn0 : 0 < X.ns.length
   ·have hkl := HKV.out hn0
    obtain ⟨gN, cN2, lN, eN, eL, m0, m1, m2⟩ := HG3.out.g.N.cells hkl
    obtain ⟨xk, hxk⟩ : ∃ xk, xk = X.ns[kv] := ⟨_, rfl⟩
    have hxk2 : X.ns[kv]? = some xk := by rw [hxk]; exact List.getElem?_eq_getElem hkl
    have HXK := Lib.hid hxk2
    have HXB := Lib.hid (HX.out.nd xk (by rw [hxk]; exact List.getElem_mem hkl))
    have hxl : xk.2.2.length ≤ 20 := HXB.out.2
    have HEL := Lib.hid eL
    have HEN := Lib.hid eN
    rw [← hxk] at m0 m1
    have u0 : (0 : Int) ≤ (kv : Int) := by omega
    have u1 : (kv : Int) < (X.ns.length : Int) := by omega
    have u2 : decide ((0 : Int) < (X.ns.length : Int)) = true := decide_eq_true (by omega)
    clear hkl eN eL hxk hxk2
    go_wp2_with fail
    refine wp_region_dc (by kernel_rfl) (fun L act W => ∃ (g7 : Nat) (y8 : Int) (v : Value), act = ⟨#[.pointer (some ⟨p, 0, none⟩), .agg #[.int .i64 X.r, .slice AN X.ns.length cN, .slice AS X.ss.length cS, .int .i64 X.e, .slice AO X.os.length cO, .slice AI X.is.length cI], undef, .pointer (some ⟨w.heap.size, 0, none⟩), .pointer (some ⟨w.heap.size + 1, 0, none⟩), .int .i64 (kv : Int), undef, .pointer (some ⟨p, 0, none⟩), .pointer (some ⟨w.heap.size, 1, none⟩), .slice AN X.ns.length cN, .int .i64 (X.ns.length : Int), .int .i64 mo, .int .i64 (kv : Int), .pointer (some ⟨p, 0, none⟩), .int .i64 5, .bool false, .bool false, undef, undef, undef, undef, .bool false, .bool false, undef, undef, undef, undef, .bool false, .bool false, undef, undef, undef, undef, undef, undef, undef, undef, .bool false, .bool false, undef, undef, undef, undef, undef, undef, undef, undef, .bool false, .bool false, undef, undef, undef, undef, undef, undef, undef, undef, undef, undef, undef, undef, .bool true, .bool true, .pointer (some ⟨w.heap.size, 1, none⟩), .slice AV X.ns.length cV, .int .i64 (X.ns.length : Int), .bool true, bsel (L 0) (.pointer (some ⟨w.heap.size, 1, none⟩)) (undef), bsel (L 1) (.slice (some ⟨gN, 0, none⟩) X.ns.length cN2) (undef), bsel (L 2) (.int .i64 (kv : Int)) (undef), bsel (L 3) (.pointer (some ⟨p, 0, none⟩)) (undef), bsel (L 4) (.int .i64 (kv : Int)) (undef), bsel (L 5) (.int .i64 (kv : Int)) (undef), bsel (L 6) (.int .i64 ((kv : Int) + 1)) (undef), bsel (L 7) (.slice (some ⟨g7, 0, none⟩) 6 6) (undef), bsel (L 8) (.int .i64 y8) (undef), bsel (L 9) (.pointer (some ⟨gN, kv * 3, none⟩)) (undef), bsel (L 10) (.pointer (some ⟨gN, kv * 3 + 1, none⟩)) (undef), undef, undef, undef, undef, undef, undef, undef, undef, undef, undef, undef, undef, undef, undef, undef, undef, undef, undef, undef, undef, undef, undef, undef, undef, undef, undef, undef, undef, undef, undef, undef, undef, undef, undef, undef, undef, undef, undef, undef, undef, undef, undef, undef, undef, undef, undef, undef, undef, undef, undef, undef, undef, undef, undef, undef, undef, undef, undef, undef, undef, undef, undef, undef, undef, undef, undef, undef, undef, undef, undef, undef, undef, undef, undef, undef, undef, undef, undef, undef, undef, undef, undef, undef], []⟩ ∧ RF p C (K + 2 + 2) 12 11 11 (fun K2 W => GR w1 p B w.heap.size C A bs c true X.cells X K2 W) (fun _ _ => True) (fun W => HR w1 p B w.heap.size A bs c (K + 3000) W) [(7, g7, .cells #[.int .i64 (-5), .int .i64 (kv : Int), .int .i64 ((kv : Int) + 1), .int .i64 (-1), .int .i64 4611686018427387904, .int .i64 (-9223372036854775808)] 3)] L v W ∧ (L 8 = true → -9223372036854775808 ≤ y8)) ?h40 ?s4t ?f4i
    case h40 => exact ⟨0, 0, undef, rfl, RF.start (HG3.out.drew), fun h => (nomatch h)⟩
    case s4t =>
     intro L act W q oo hJ hC hL ho hd K3 hK3
     obtain ⟨g7, y8, v, rfl, hF, hR8⟩ := hJ
     match q, ho with
     | 0, ho | 2, ho | 3, ho | 4, ho | 5, ho | 9, ho | 10, ho =>
      cases ho
      simp [Region.binds] at hd
      try simp only [hd, bsel_t]
      have HF := Lib.hid hF
      clear hF hC
      have HR8 := Lib.hid hR8
      clear hR8
      go_simp
      exact hK3 _ _ ⟨g7, y8, v, by first | (simp [upd, bsel]; done) | simp [upd, bsel, hd], HF.out.pure hL (by decide) (by decide) (by simp), by simpa [upd] using HR8.out⟩
     | 1, ho =>
      cases ho
      simp [Region.binds] at hd
      have n11 : L 11 = false := dc_no hC hL (by kernel_rfl)
      obtain ⟨K2, hK2, hD⟩ := hF.d n11
      have s0 := hD.g.cell (f := 1) (u := X.nv) rfl
      rw [HEN.out] at s0
      clear hD hK2
      try simp only [hd, bsel_t]
      have HF := Lib.hid hF
      clear hF hC
      have HR8 := Lib.hid hR8
      clear hR8
      go_simp
      exact hK3 _ _ ⟨g7, y8, v, by first | (simp [upd, bsel]; done) | (simp [upd, bsel, n11]; done) | simp [upd, bsel, hd, n11], HF.out.pure hL (by decide) (by decide) (by simp), by simpa [upd] using HR8.out⟩
     | 6, ho =>
      cases ho
      simp [Region.binds] at hd
      have hw6 := IntWalk.i64_in ((kv : Int) + 1) (by omega)
      try simp only [hd, bsel_t]
      have HF := Lib.hid hF
      clear hF hC
      have HR8 := Lib.hid hR8
      clear hR8
      go_simp
      exact hK3 _ _ ⟨g7, y8, v, by first | (simp [upd, bsel]; done) | simp [upd, bsel, hd], HF.out.pure hL (by decide) (by decide) (by simp), by simpa [upd] using HR8.out⟩
     | 7, ho =>
      cases ho
      simp [Region.binds] at hd
      have n11 : L 11 = false := dc_no hC hL (by kernel_rfl)
      try simp only [hd, bsel_t]
      have HF := Lib.hid hF
      clear hF hC
      have HR8 := Lib.hid hR8
      clear hR8
      go_simp
      exact hK3 _ _ ⟨W.heap.size, y8, v, by first | (simp [upd, bsel]; done) | (simp [upd, bsel, n11]; done) | simp [upd, bsel, hd, n11], HF.out.lit hL n11 (by decide) (by decide) (by simp) (fun K2 h => by have := h.g.k.size; omega) (fun K2 h => h.alloc _), by simpa [upd] using HR8.out⟩
     | 8, ho =>
      cases ho
      simp [Region.binds] at hd
      have n11 : L 11 = false := dc_no hC hL (by kernel_rfl)
      obtain ⟨K2, hK2, hD⟩ := hF.d n11
      have l7 : L 7 = true := by simp [hd]
      obtain ⟨hg1, hg2⟩ := hF.li n11 (7, g7, .cells #[.int .i64 (-5), .int .i64 (kv : Int), .int .i64 ((kv : Int) + 1), .int .i64 (-1), .int .i64 4611686018427387904, .int .i64 (-9223372036854775808)] 3) (by simp) l7
      try simp only [hd, bsel_t]
      have HF := Lib.hid hF
      clear hF hC
      have HR8 := Lib.hid hR8
      clear hR8
      have HD := Lib.hid hD
      clear hD
      go_simp
      go_at_call 88
      refine (among_any p A bs c K2 (some ⟨g7, 0, none⟩) 6 [-5, (kv : Int), ((kv : Int) + 1), -1, 4611686018427387904, -9223372036854775808] W HD.out.g.cur (by have := cnt_le L 20; have := cnt_le L 14; have := cnt_le L 13; have := cnt_le L 12; have := cnt_le L 9; omega) (by simp) (by simp) (cellsG hg2) (fun b o e => by cases e; have h1 : C ≤ g7 := hg1; omega)).mono ?_
      rintro e W' ⟨y8', rfl, hy, hC', hk'⟩
      go_simp
      exact hK3 _ _ ⟨g7, y8', v, by first | (simp [upd, bsel]; done) | (simp [upd, bsel, n11]; done) | simp [upd, bsel, hd, n11], HF.out.draw (by decide) hL n11 (by decide) (by decide) (by simp) (K2 := K2 + 2) (by omega) (by omega) (HD.out.draw hpB hBC hpP hk' hC') hk', fun _ => (by simp only [List.mem_cons, List.not_mem_nil, or_false] at hy; rcases hy with rfl | rfl | rfl | rfl | rfl | rfl <;> omega)⟩
     | 11, ho =>
      cases ho
      simp [Region.binds] at hd
      obtain ⟨K2, hK2, hD⟩ := hF.d hL
      have l8 : L 8 = true := by simp [hd]
      have HFF := Lib.hid (show HR w1 p B w.heap.size A bs c (K + 3000) (W.setCell ⟨gN, kv * 3 + 1, none⟩ (.int .i64 y8)) from GR.hd (K := K2) (X := { X with ns := X.ns.set kv (xk.1, y8, xk.2.2) }) (hD.put2 hpB HEN.out HXK.out y8) hBC (HX.out.n' (hR8 l8) (Nat.le_trans HXB.out.2 (by decide))) (by have := cnt_le L 12; omega))
      obtain ⟨m0, m1, m2, m3⟩ := node_cells hD.g.N.own HEN.out HXK.out HEL.out
      have f0 := m3 (kv * 3 + 1)
      clear hD
      try simp only [hd, bsel_t]
      have HF := Lib.hid hF
      clear hF hC
      have HR8 := Lib.hid hR8
      clear hR8
      go_simp
      exact hK3 _ _ ⟨g7, y8, v, by first | (simp [upd, bsel]; done) | simp [upd, bsel, hd], RF.store1 HFF.out, by simpa [upd] using HR8.out⟩
     | q + 12, ho => simp at ho
    intro L act W hJ hfin
    obtain ⟨g7, y8, v, rfl, hF, hR8⟩ := hJ
    have ll := fin_all 12 (by kernel_rfl) hfin
    have l0 := ll 0 (by decide)
    have l1 := ll 1 (by decide)
    have l2 := ll 2 (by decide)
    have l3 := ll 3 (by decide)
    have l4 := ll 4 (by decide)
    have l5 := ll 5 (by decide)
    have l6 := ll 6 (by decide)
    have l7 := ll 7 (by decide)
    have l8 := ll 8 (by decide)
    have l9 := ll 9 (by decide)
    have l10 := ll 10 (by decide)
    have l11 := ll 11 (by decide)
    simp only [l0, l1, l2, l3, l4, l5, l6, l7, l8, l9, l10, l11, bsel_t]
    have HR8 := Lib.hid (hR8 l8)
    have HFIN := Lib.hid (hF.f l11)
    clear hF hfin l0 l1 l2 l3 l4 l5 l6 l7 l8 l9 l10 l11 hR8
    have HF2 := Lib.hid HFIN.out
    clear HFIN
    go_wp2_with fail
    go_meet
    case rel => exact HF2.out
   have u2 : decide ((0 : Int) < (X.ns.length : Int)) = false := decide_eq_false (by omega)
   have x2 : ¬ (0 : Int) < (X.ns.length : Int) := by omega
   go_wp2_with fail
   go_meet
   case rel => exact HG3.out.hd hBC HX.out.small (by omega)
  ·obtain ⟨AV, cV, hnv, _⟩ := owns_form HG3.out.g.N.own
   have x1 := HG3.out.g.cell (f := 1) (u := X.nv) rfl
   rw [hnv] at x1
   clear hnv
   by_cases hn0 : 0 < X.ns.length
   ·have hkl := HKV.out hn0
    obtain ⟨gN, cN2, lN, eN, eL, m0, m1, m2⟩ := HG3.out.g.N.cells hkl
    obtain ⟨xk, hxk⟩ : ∃ xk, xk = X.ns[kv] := ⟨_, rfl⟩
    have hxk2 : X.ns[kv]? = some xk := by rw [hxk]; exact List.getElem?_eq_getElem hkl
    have HXK := Lib.hid hxk2
    have HXB := Lib.hid (HX.out.nd xk (by rw [hxk]; exact List.getElem_mem hkl))
    have hxl : xk.2.2.length ≤ 20 := HXB.out.2
    have HEL := Lib.hid eL
    have HEN := Lib.hid eN
    rw [← hxk] at m0 m1
    have u0 : (0 : Int) ≤ (kv : Int) := by omega
    have u1 : (kv : Int) < (X.ns.length : Int) := by omega
    have u2 : decide ((0 : Int) < (X.ns.length : Int)) = true := decide_eq_true (by omega)
    clear hkl eN eL hxk hxk2
    go_wp2_with fail
    refine wp_region_dc (by kernel_rfl) (fun L act W => ∃ (g4 : Nat) (y5 : Int) (v : Value), act = ⟨#[.pointer (some ⟨p, 0, none⟩), .agg #[.int .i64 X.r, .slice AN X.ns.length cN, .slice AS X.ss.length cS, .int .i64 X.e, .slice AO X.os.length cO, .slice AI X.is.length cI], undef, .pointer (some ⟨w.heap.size, 0, none⟩), .pointer (some ⟨w.heap.size + 1, 0, none⟩), .int .i64 (kv : Int), undef, .pointer (some ⟨p, 0, none⟩), .pointer (some ⟨w.heap.size, 1, none⟩), .slice AN X.ns.length cN, .int .i64 (X.ns.length : Int), .int .i64 mo, .int .i64 (kv : Int), .pointer (some ⟨p, 0, none⟩), .int .i64 6, .bool false, .bool false, undef, undef, undef, undef, .bool false, .bool false, undef, undef, undef, undef, .bool false, .bool false, undef, undef, undef, undef, undef, undef, undef, undef, .bool false, .bool false, undef, undef, undef, undef, undef, undef, undef, undef, .bool false, .bool false, undef, undef, undef, undef, undef, undef, undef, undef, undef, undef, undef, undef, .bool false, .bool false, undef, undef, undef, undef, undef, undef, undef, undef, undef, undef, undef, undef, undef, undef, undef, .bool true, .bool true, .pointer (some ⟨w.heap.size, 1, none⟩), .slice AV X.ns.length cV, .int .i64 (X.ns.length : Int), .bool true, bsel (L 0) (.pointer (some ⟨w.heap.size, 1, none⟩)) (undef), bsel (L 1) (.slice (some ⟨gN, 0, none⟩) X.ns.length cN2) (undef), bsel (L 2) (.int .i64 (kv : Int)) (undef), bsel (L 3) (.pointer (some ⟨p, 0, none⟩)) (undef), bsel (L 4) (.slice (some ⟨g4, 0, none⟩) 3 3) (undef), bsel (L 5) (.int .i64 y5) (undef), bsel (L 6) (.pointer (some ⟨gN, kv * 3, none⟩)) (undef), bsel (L 7) (.pointer (some ⟨gN, kv * 3, none⟩)) (undef), undef, undef, undef, undef, undef, undef, undef, undef, undef, undef, undef, undef, undef, undef, undef, undef, undef, undef, undef, undef, undef, undef, undef, undef, undef, undef, undef, undef, undef, undef, undef, undef, undef, undef, undef, undef, undef, undef, undef, undef, undef, undef, undef, undef, undef, undef, undef, undef, undef, undef, undef, undef, undef, undef, undef, undef, undef, undef, undef, undef, undef, undef, undef, undef, undef, undef, undef, undef, undef], []⟩ ∧ RF p C (K + 2 + 2) 9 8 8 (fun K2 W => GR w1 p B w.heap.size C A bs c true X.cells X K2 W) (fun _ _ => True) (fun W => HR w1 p B w.heap.size A bs c (K + 3000) W) [(4, g4, .cells #[.int .i64 (-1), .int .i64 0, .int .i64 6] 3)] L v W ∧ (L 5 = true → -100 ≤ y5)) ?h50 ?s5t ?f5i
    case h50 => exact ⟨0, 0, undef, rfl, RF.start (HG3.out.drew), fun h => (nomatch h)⟩
    case s5t =>
     intro L act W q oo hJ hC hL ho hd K3 hK3
     obtain ⟨g4, y5, v, rfl, hF, hR5⟩ := hJ
     match q, ho with
     | 0, ho | 2, ho | 3, ho | 6, ho | 7, ho =>
      cases ho
      simp [Region.binds] at hd
      try simp only [hd, bsel_t]
      have HF := Lib.hid hF
      clear hF hC
      have HR5 := Lib.hid hR5
      clear hR5
      go_simp
      exact hK3 _ _ ⟨g4, y5, v, by first | (simp [upd, bsel]; done) | simp [upd, bsel, hd], HF.out.pure hL (by decide) (by decide) (by simp), by simpa [upd] using HR5.out⟩
     | 1, ho =>
      cases ho
      simp [Region.binds] at hd
      have n8 : L 8 = false := dc_no hC hL (by kernel_rfl)
      obtain ⟨K2, hK2, hD⟩ := hF.d n8
      have s0 := hD.g.cell (f := 1) (u := X.nv) rfl
      rw [HEN.out] at s0
      clear hD hK2
      try simp only [hd, bsel_t]
      have HF := Lib.hid hF
      clear hF hC
      have HR5 := Lib.hid hR5
      clear hR5
      go_simp
      exact hK3 _ _ ⟨g4, y5, v, by first | (simp [upd, bsel]; done) | (simp [upd, bsel, n8]; done) | simp [upd, bsel, hd, n8], HF.out.pure hL (by decide) (by decide) (by simp), by simpa [upd] using HR5.out⟩
     | 4, ho =>
      cases ho
      simp [Region.binds] at hd
      have n8 : L 8 = false := dc_no hC hL (by kernel_rfl)
      try simp only [hd, bsel_t]
      have HF := Lib.hid hF
      clear hF hC
      have HR5 := Lib.hid hR5
      clear hR5
      go_simp
      exact hK3 _ _ ⟨W.heap.size, y5, v, by first | (simp [upd, bsel]; done) | (simp [upd, bsel, n8]; done) | simp [upd, bsel, hd, n8], HF.out.lit hL n8 (by decide) (by decide) (by simp) (fun K2 h => by have := h.g.k.size; omega) (fun K2 h => h.alloc _), by simpa [upd] using HR5.out⟩
     | 5, ho =>
      cases ho
      simp [Region.binds] at hd
      have n8 : L 8 = false := dc_no hC hL (by kernel_rfl)
      obtain ⟨K2, hK2, hD⟩ := hF.d n8
      have l4 : L 4 = true := by simp [hd]
      obtain ⟨hg1, hg2⟩ := hF.li n8 (4, g4, .cells #[.int .i64 (-1), .int .i64 0, .int .i64 6] 3) (by simp) l4
      try simp only [hd, bsel_t]
      have HF := Lib.hid hF
      clear hF hC
      have HR5 := Lib.hid hR5
      clear hR5
      have HD := Lib.hid hD
      clear hD
      go_simp
      go_at_call 88
      refine (among_any p A bs c K2 (some ⟨g4, 0, none⟩) 3 [-1, 0, 6] W HD.out.g.cur (by have := cnt_le L 20; have := cnt_le L 14; have := cnt_le L 13; have := cnt_le L 12; have := cnt_le L 9; omega) (by simp) (by simp) (cellsG hg2) (fun b o e => by cases e; have h1 : C ≤ g4 := hg1; omega)).mono ?_
      rintro e W' ⟨y5', rfl, hy, hC', hk'⟩
      go_simp
      exact hK3 _ _ ⟨g4, y5', v, by first | (simp [upd, bsel]; done) | (simp [upd, bsel, n8]; done) | simp [upd, bsel, hd, n8], HF.out.draw (by decide) hL n8 (by decide) (by decide) (by simp) (K2 := K2 + 2) (by omega) (by omega) (HD.out.draw hpB hBC hpP hk' hC') hk', fun _ => (by simp only [List.mem_cons, List.not_mem_nil, or_false] at hy; rcases hy with rfl | rfl | rfl <;> decide)⟩
     | 8, ho =>
      cases ho
      simp [Region.binds] at hd
      obtain ⟨K2, hK2, hD⟩ := hF.d hL
      have HFF := Lib.hid (show HR w1 p B w.heap.size A bs c (K + 3000) (W.setCell ⟨gN, kv * 3, none⟩ (.int .i64 y5)) from GR.hd (K := K2) (X := { X with ns := X.ns.set kv (y5, xk.2) }) (hD.put1 hpB HEN.out HXK.out y5) hBC (HX.out.n' (x := (y5, xk.2)) HXB.out.1 (Nat.le_trans HXB.out.2 (by decide))) (by have := cnt_le L 9; omega))
      obtain ⟨m0, m1, m2, m3⟩ := node_cells hD.g.N.own HEN.out HXK.out HEL.out
      have f0 := m3 (kv * 3)
      clear hD
      try simp only [hd, bsel_t]
      have HF := Lib.hid hF
      clear hF hC
      have HR5 := Lib.hid hR5
      clear hR5
      go_simp
      exact hK3 _ _ ⟨g4, y5, v, by first | (simp [upd, bsel]; done) | simp [upd, bsel, hd], RF.store1 HFF.out, by simpa [upd] using HR5.out⟩
     | q + 9, ho => simp at ho
    intro L act W hJ hfin
    obtain ⟨g4, y5, v, rfl, hF, hR5⟩ := hJ
    have ll := fin_all 9 (by kernel_rfl) hfin
    have l0 := ll 0 (by decide)
    have l1 := ll 1 (by decide)
    have l2 := ll 2 (by decide)
    have l3 := ll 3 (by decide)
    have l4 := ll 4 (by decide)
    have l5 := ll 5 (by decide)
    have l6 := ll 6 (by decide)
    have l7 := ll 7 (by decide)
    have l8 := ll 8 (by decide)
    simp only [l0, l1, l2, l3, l4, l5, l6, l7, l8, bsel_t]
    have HR5 := Lib.hid (hR5 l5)
    have HFIN := Lib.hid (hF.f l8)
    clear hF hfin l0 l1 l2 l3 l4 l5 l6 l7 l8 hR5
    have HF2 := Lib.hid HFIN.out
    clear HFIN
    go_wp2_with fail
    go_meet
    case rel => exact HF2.out
   have u2 : decide ((0 : Int) < (X.ns.length : Int)) = false := decide_eq_false (by omega)
   have x2 : ¬ (0 : Int) < (X.ns.length : Int) := by omega
   go_wp2_with fail
   go_meet
   case rel => exact HG3.out.hd hBC HX.out.small (by omega)
  ·obtain ⟨AV, cV, hnv, _⟩ := owns_form HG3.out.g.N.own
   have x1 := HG3.out.g.cell (f := 1) (u := X.nv) rfl
   rw [hnv] at x1
   clear hnv
   by_cases hn0 : 0 < X.ns.length
   ·have hkl := HKV.out hn0
    obtain ⟨gN, cN2, lN, eN, eL, m0, m1, m2⟩ := HG3.out.g.N.cells hkl
    obtain ⟨xk, hxk⟩ : ∃ xk, xk = X.ns[kv] := ⟨_, rfl⟩
    have hxk2 : X.ns[kv]? = some xk := by rw [hxk]; exact List.getElem?_eq_getElem hkl
    have HXK := Lib.hid hxk2
    have HXB := Lib.hid (HX.out.nd xk (by rw [hxk]; exact List.getElem_mem hkl))
    have hxl : xk.2.2.length ≤ 20 := HXB.out.2
    have HEL := Lib.hid eL
    have HEN := Lib.hid eN
    rw [← hxk] at m0 m1
    have u0 : (0 : Int) ≤ (kv : Int) := by omega
    have u1 : (kv : Int) < (X.ns.length : Int) := by omega
    have u2 : decide ((0 : Int) < (X.ns.length : Int)) = true := decide_eq_true (by omega)
    clear hkl eN eL hxk hxk2
    go_wp2_with fail
    refine wp_region_dc (by kernel_rfl) (fun L act W => ∃ (g9 : Nat) (v : Value), act = ⟨#[.pointer (some ⟨p, 0, none⟩), .agg #[.int .i64 X.r, .slice AN X.ns.length cN, .slice AS X.ss.length cS, .int .i64 X.e, .slice AO X.os.length cO, .slice AI X.is.length cI], undef, .pointer (some ⟨w.heap.size, 0, none⟩), .pointer (some ⟨w.heap.size + 1, 0, none⟩), .int .i64 (kv : Int), undef, .pointer (some ⟨p, 0, none⟩), .pointer (some ⟨w.heap.size, 1, none⟩), .slice AN X.ns.length cN, .int .i64 (X.ns.length : Int), .int .i64 mo, .int .i64 (kv : Int), .pointer (some ⟨p, 0, none⟩), .int .i64 7, .bool false, .bool false, undef, undef, undef, undef, .bool false, .bool false, undef, undef, undef, undef, .bool false, .bool false, undef, undef, undef, undef, undef, undef, undef, undef, .bool false, .bool false, undef, undef, undef, undef, undef, undef, undef, undef, .bool false, .bool false, undef, undef, undef, undef, undef, undef, undef, undef, undef, undef, undef, undef, .bool false, .bool false, undef, undef, undef, undef, undef, undef, undef, undef, undef, undef, undef, undef, undef, undef, undef, .bool false, .bool false, undef, undef, undef, undef, undef, undef, undef, undef, undef, undef, undef, undef, .bool true, .bool true, .pointer (some ⟨w.heap.size, 1, none⟩), .slice AV X.ns.length cV, .int .i64 (X.ns.length : Int), .bool true, bsel (L 0) (.pointer (some ⟨w.heap.size, 1, none⟩)) (undef), bsel (L 1) (.slice (some ⟨gN, 0, none⟩) X.ns.length cN2) (undef), bsel (L 2) (.int .i64 (kv : Int)) (undef), bsel (L 3) (.pointer (some ⟨w.heap.size, 1, none⟩)) (undef), bsel (L 4) (.slice (some ⟨gN, 0, none⟩) X.ns.length cN2) (undef), bsel (L 5) (.int .i64 (kv : Int)) (undef), bsel (L 6) (.pointer (some ⟨gN, kv * 3, none⟩)) (undef), bsel (L 7) (.pointer (some ⟨gN, kv * 3 + 2, none⟩)) (undef), bsel (L 8) (lN) (undef), bsel (L 9) (.slice (some ⟨g9, 0, none⟩) 1 1) (undef), bsel (L 10) (v) (undef), bsel (L 11) (.pointer (some ⟨gN, kv * 3, none⟩)) (undef), bsel (L 12) (.pointer (some ⟨gN, kv * 3 + 2, none⟩)) (undef), undef, undef, undef, undef, undef, undef, undef, undef, undef, undef, undef, undef, undef, undef, undef, undef, undef, undef, undef, undef, undef, undef, undef, undef, undef, undef, undef, undef, undef, undef, undef, undef, undef, undef, undef, undef, undef, undef, undef, undef, undef, undef, undef, undef, undef, undef, undef, undef, undef, undef], []⟩ ∧ RF p C (K + 2 + 2) 14 10 13 (fun K2 W => GR w1 p B w.heap.size C A bs c true X.cells X K2 W) (fun v W => GB w1 p B w.heap.size C A bs c X (K + 100) kv v (xk.2.2 ++ [0]) W) (fun W => HR w1 p B w.heap.size A bs c (K + 3000) W) [(9, g9, .cells #[.int .i64 0] 3)] L v W) ?h60 ?s6t ?f6i
    case h60 => exact ⟨0, undef, rfl, RF.start (HG3.out.drew)⟩
    case s6t =>
     intro L act W q oo hJ hC hL ho hd K3 hK3
     obtain ⟨g9, v, rfl, hF⟩ := hJ
     match q, ho with
     | 0, ho | 2, ho | 3, ho | 5, ho | 6, ho | 7, ho | 11, ho | 12, ho =>
      cases ho
      simp [Region.binds] at hd
      try simp only [hd, bsel_t]
      have HF := Lib.hid hF
      clear hF hC
      go_simp
      exact hK3 _ _ ⟨g9, v, by first | (simp [upd, bsel]; done) | simp [upd, bsel, hd], HF.out.pure hL (by decide) (by decide) (by simp)⟩
     | 1, ho =>
      cases ho
      simp [Region.binds] at hd
      have n13 : L 13 = false := dc_no hC hL (by kernel_rfl)
      have s0 : W.cell? ⟨w.heap.size, 1, none⟩ = some (.slice (some ⟨gN, 0, none⟩) X.ns.length cN2) := by
       cases eA : L 10
       ·obtain ⟨K2, hK2, hD⟩ := hF.d eA
        have s0 := hD.g.cell (f := 1) (u := X.nv) rfl
        rw [HEN.out] at s0
        exact s0
       have hE := hF.e eA n13
       have s0 : W.cell? ⟨w.heap.size, 1, none⟩ = some X.nv := cell_of_row W _ 1 _ _ _ hE.g.box
       rw [HEN.out] at s0
       exact s0
      try simp only [hd, bsel_t]
      have HF := Lib.hid hF
      clear hF hC
      go_simp
      exact hK3 _ _ ⟨g9, v, by first | (simp [upd, bsel]; done) | simp [upd, bsel, hd], HF.out.pure hL (by decide) (by decide) (by simp)⟩
     | 4, ho =>
      cases ho
      simp [Region.binds] at hd
      have n10 : L 10 = false := dc_no hC hL (by kernel_rfl)
      obtain ⟨K2, hK2, hD⟩ := hF.d n10
      have s0 := hD.g.cell (f := 1) (u := X.nv) rfl
      rw [HEN.out] at s0
      clear hD hK2
      try simp only [hd, bsel_t]
      have HF := Lib.hid hF
      clear hF hC
      go_simp
      exact hK3 _ _ ⟨g9, v, by first | (simp [upd, bsel]; done) | (simp [upd, bsel, n10]; done) | simp [upd, bsel, hd, n10], HF.out.pure hL (by decide) (by decide) (by simp)⟩
     | 8, ho =>
      cases ho
      simp [Region.binds] at hd
      have n10 : L 10 = false := dc_no hC hL (by kernel_rfl)
      obtain ⟨K2, hK2, hD⟩ := hF.d n10
      obtain ⟨_, _, m2, _⟩ := node_cells hD.g.N.own HEN.out HXK.out HEL.out
      clear hD hK2
      try simp only [hd, bsel_t]
      have HF := Lib.hid hF
      clear hF hC
      go_simp
      exact hK3 _ _ ⟨g9, v, by first | (simp [upd, bsel]; done) | (simp [upd, bsel, n10]; done) | simp [upd, bsel, hd, n10], HF.out.pure hL (by decide) (by decide) (by simp)⟩
     | 9, ho =>
      cases ho
      simp [Region.binds] at hd
      have n10 : L 10 = false := dc_no hC hL (by kernel_rfl)
      try simp only [hd, bsel_t]
      have HF := Lib.hid hF
      clear hF hC
      go_simp
      exact hK3 _ _ ⟨W.heap.size, v, by first | (simp [upd, bsel]; done) | (simp [upd, bsel, n10]; done) | simp [upd, bsel, hd, n10], HF.out.lit hL n10 (by decide) (by decide) (by simp) (fun K2 h => by have := h.g.k.size; omega) (fun K2 h => h.alloc _)⟩
     | 10, ho =>
      cases ho
      simp [Region.binds] at hd
      obtain ⟨K2, hK2, hD⟩ := hF.d hL
      have l9 : L 9 = true := by simp [hd]
      obtain ⟨hg1, hg2⟩ := hF.li hL (9, g9, .cells #[.int .i64 0] 3) (by simp) l9
      simp only [hd, bsel_t]
      have HF := Lib.hid hF
      clear hF hC
      refine step_appR el_intG rfl (.tmp 106) (.tmp 107) rfl B (lN) xk.2.2.length (ints xk.2.2) (by rfl) (hD.g.N.lk kv lN xk HEL.out HXK.out) ⟨g9, 0, none⟩ 1 1 [.int .i64 0] (by rfl) rfl (fun j' u' hj' => by rw [show (⟨g9, 0, none⟩ : Addr).add j' = ⟨g9, j', none⟩ from by simp [Addr.add, eq_comm], cell_of_row W g9 _ _ _ _ hg2]; simpa using hj') (one1 rfl) (by unfold maxLen; omega) (by omega) (by have := hD.g.k.size; omega) ?_
      intro v' W' ho hg
      have HE := Lib.hid (GR.appK (hD.mono (K' := K + 100) (by have := cnt_le L 14; omega)) hpB hBC HEL.out HXK.out ho (kept_of_grown hg))
      clear ho hg hD
      go_simp
      exact hK3 _ _ ⟨g9, v', by first | (simp [upd, bsel]; done) | simp [upd, bsel, hd], HF.out.app hL (by decide) HE.out⟩
     | 13, ho =>
      cases ho
      simp [Region.binds] at hd
      have lA : L 10 = true := by simp [hd]
      have hE := hF.e lA hL
      obtain ⟨Av, cv, rfl, _⟩ := owns_form (show W.ownsRow B 3 1 v (xk.2.2.length + 1) (ints (xk.2.2 ++ [0])) from (by have h := hE.g.v; simp only [List.length_append, List.length_cons, List.length_nil] at h; exact h))
      obtain ⟨_, _, m2, m3⟩ := node_cells hE.g.own HEN.out HXK.out HEL.out
      have f0 := m3 (kv * 3 + 2)
      have HFF := Lib.hid (show HR w1 p B w.heap.size A bs c (K + 3000) (W.setCell ⟨gN, kv * 3 + 2, none⟩ (.slice Av (xk.2.2.length + 1) cv)) from GB.hd hE hpB HEN.out HXK.out (HX.out.n' (x := (xk.1, xk.2.1, xk.2.2 ++ [0])) HXB.out.1 (by have := HXB.out.2; show (xk.2.2 ++ [0]).length ≤ 1000; rw [List.length_append]; simp; omega)) (by omega))
      clear hE
      try simp only [hd, bsel_t]
      have HF := Lib.hid hF
      clear hF hC
      go_simp
      exact hK3 _ _ ⟨g9, (.slice Av (xk.2.2.length + 1) cv), by first | (simp [upd, bsel]; done) | simp [upd, bsel, hd], HF.out.store lA (by decide) HFF.out⟩
     | q + 14, ho => simp at ho
    intro L act W hJ hfin
    obtain ⟨g9, v, rfl, hF⟩ := hJ
    have ll := fin_all 14 (by kernel_rfl) hfin
    have l0 := ll 0 (by decide)
    have l1 := ll 1 (by decide)
    have l2 := ll 2 (by decide)
    have l3 := ll 3 (by decide)
    have l4 := ll 4 (by decide)
    have l5 := ll 5 (by decide)
    have l6 := ll 6 (by decide)
    have l7 := ll 7 (by decide)
    have l8 := ll 8 (by decide)
    have l9 := ll 9 (by decide)
    have l10 := ll 10 (by decide)
    have l11 := ll 11 (by decide)
    have l12 := ll 12 (by decide)
    have l13 := ll 13 (by decide)
    simp only [l0, l1, l2, l3, l4, l5, l6, l7, l8, l9, l10, l11, l12, l13, bsel_t]
    have HFIN := Lib.hid (hF.f l13)
    clear hF hfin l0 l1 l2 l3 l4 l5 l6 l7 l8 l9 l10 l11 l12 l13
    have HF2 := Lib.hid HFIN.out
    clear HFIN
    go_wp2_with fail
    go_meet
    case rel => exact HF2.out
   have u2 : decide ((0 : Int) < (X.ns.length : Int)) = false := decide_eq_false (by omega)
   have x2 : ¬ (0 : Int) < (X.ns.length : Int) := by omega
   go_wp2_with fail
   go_meet
   case rel => exact HG3.out.hd hBC HX.out.small (by omega)
  ·have HG4 := Lib.hid (show GR w1 p B w.heap.size C A bs c false X.cells X (K + 2 + 2) w3 from ⟨{ HG3.out.g with N := HG3.out.g.N.to }, HG3.out.rb⟩)
   go_wp2_with fail
   go_loopw [] (fun wr => ∃ (Z : BX) (KB : Nat), KB ≤ K + 10 + 60 * Z.ns.length ∧ SX Z ∧ GR w1 p B w.heap.size C A bs c false Z.cells Z KB wr) (fun wr => 9 - lenB w.heap.size wr)
   case atStart => exact ⟨X, K + 2 + 2, by omega, HX.out, HG4.out⟩
   clear HG4
   obtain ⟨Z, KB, hKB, hZ, hG⟩ := hrel
   have HZ := Lib.hid hZ
   have HGZ := Lib.hid hG
   have hzl := hZ.nl
   obtain ⟨AV, cV, hnv, _⟩ := owns_form hG.g.N.own
   have x1 := hG.g.cell (f := 1) (u := Z.nv) rfl
   rw [hnv] at x1
   have X1 := Lib.hid x1
   clear hZ hnv
   by_cases hn0 : 0 < Z.ns.length
   ·have hi0 : (0 : Int) < (Z.ns.length : Int) := by omega
    by_cases hn9 : Z.ns.length < 9
    ·have hi9 : (Z.ns.length : Int) < 9 := by omega
     obtain ⟨gN, cN2, lN, eN, eL, m0, m1, m2⟩ := hG.g.N.cells hn0
     obtain ⟨x0, hx0⟩ : ∃ x0, x0 = Z.ns[0] := ⟨_, rfl⟩
     have hx02 : Z.ns[0]? = some x0 := by rw [hx0]; exact List.getElem?_eq_getElem hn0
     obtain ⟨AL, cL, rfl, _⟩ := owns_form (hG.g.N.lk 0 lN x0 eL hx02)
     have HX0 := Lib.hid hx02
     have HXB := Lib.hid (HZ.out.nd x0 (by rw [hx0]; exact List.getElem_mem hn0))
     have HEL := Lib.hid eL
     have HEN := Lib.hid eN
     clear hG m0 m1 m2 eN eL hx0 hx02
     go_wp2_with fail
     refine wp_region_dc (by kernel_rfl) (fun L act W => ∃ (g13 : Nat) (v : Value), act = ⟨#[.pointer (some ⟨p, 0, none⟩), .agg #[.int .i64 X.r, .slice AN X.ns.length cN, .slice AS X.ss.length cS, .int .i64 X.e, .slice AO X.os.length cO, .slice AI X.is.length cI], undef, .pointer (some ⟨w.heap.size, 0, none⟩), .pointer (some ⟨w.heap.size + 1, 0, none⟩), .int .i64 (kv : Int), undef, .pointer (some ⟨p, 0, none⟩), .pointer (some ⟨w.heap.size, 1, none⟩), .slice AN X.ns.length cN, .int .i64 (X.ns.length : Int), .int .i64 mo, .int .i64 (kv : Int), .pointer (some ⟨p, 0, none⟩), .int .i64 8, .bool false, .bool false, undef, undef, undef, undef, .bool false, .bool false, undef, undef, undef, undef, .bool false, .bool false, undef, undef, undef, undef, undef, undef, undef, undef, .bool false, .bool false, undef, undef, undef, undef, undef, undef, undef, undef, .bool false, .bool false, undef, undef, undef, undef, undef, undef, undef, undef, undef, undef, undef, undef, .bool false, .bool false, undef, undef, undef, undef, undef, undef, undef, undef, undef, undef, undef, undef, undef, undef, undef, .bool false, .bool false, undef, undef, undef, undef, undef, undef, undef, undef, undef, undef, undef, undef, .bool false, .bool false, undef, undef, undef, undef, undef, undef, undef, undef, undef, undef, undef, undef, undef, undef, undef, undef, undef, .bool false, .bool false, undef, undef, undef, undef, undef, undef, undef, undef, undef, undef, undef, undef, undef, undef, undef, undef, undef, undef, undef, .bool true, .bool true, .pointer (some ⟨w.heap.size, 1, none⟩), .slice AV Z.ns.length cV, .int .i64 (Z.ns.length : Int), .bool true, .bool true, .pointer (some ⟨w.heap.size, 1, none⟩), .slice AV Z.ns.length cV, .int .i64 (Z.ns.length : Int), .bool true, .bool true, bsel (L 0) (.pointer (some ⟨w.heap.size, 1, none⟩)) (u144), bsel (L 1) (.slice (some ⟨gN, 0, none⟩) Z.ns.length cN2) (u145), bsel (L 2) (.pointer (some ⟨w.heap.size, 1, none⟩)) (u146), bsel (L 3) (.slice (some ⟨gN, 0, none⟩) Z.ns.length cN2) (u147), bsel (L 4) (.pointer (some ⟨gN, 0, none⟩)) (u148), bsel (L 5) (.pointer (some ⟨gN, 0, none⟩)) (u149), bsel (L 6) (.int .i64 x0.1) (u150), bsel (L 7) (.pointer (some ⟨w.heap.size, 1, none⟩)) (u151), bsel (L 8) (.slice (some ⟨gN, 0, none⟩) Z.ns.length cN2) (u152), bsel (L 9) (.pointer (some ⟨gN, 0, none⟩)) (u153), bsel (L 10) (.pointer (some ⟨gN, 2, none⟩)) (u154), bsel (L 11) (.slice AL x0.2.2.length cL) (u155), bsel (L 12) (.agg #[.int .i64 x0.1, .int .i64 (-1), .slice AL x0.2.2.length cL]) (u156), bsel (L 13) (.slice (some ⟨g13, 0, none⟩) 1 1) (u157), bsel (L 14) (v) (u158), bsel (L 15) (.pointer (some ⟨w.heap.size, 1, none⟩)) (u159), undef], []⟩ ∧ RF p C KB 17 14 16 (fun K2 W => GR w1 p B w.heap.size C A bs c false Z.cells Z K2 W) (fun v W => GR w1 p B w.heap.size C A bs c false Z.cells { Z with nv := v, ns := Z.ns ++ [((x0.1, -1, x0.2.2) : Nod)], ls := Z.ls ++ [.slice AL x0.2.2.length cL] } (KB + 40) W) (fun W => ∃ z, GR w1 p B w.heap.size C A bs c false (BX.cells { Z with nv := z, ns := Z.ns ++ [((x0.1, -1, x0.2.2) : Nod)], ls := Z.ls ++ [.slice AL x0.2.2.length cL] }) { Z with nv := z, ns := Z.ns ++ [((x0.1, -1, x0.2.2) : Nod)], ls := Z.ls ++ [.slice AL x0.2.2.length cL] } (KB + 40) W) [(13, g13, .cells #[.int .i64 x0.1, .int .i64 (-1), .slice AL x0.2.2.length cL] 88)] L v W) ?h70 ?s7t ?f7i
     case h70 => exact ⟨0, undef, rfl, RF.start (HGZ.out.drew)⟩
     case s7t =>
      intro L act W q oo hJ hC hL ho hd K3 hK3
      obtain ⟨g13, v, rfl, hF⟩ := hJ
      match q, ho with
      | 0, ho | 2, ho | 5, ho | 7, ho | 9, ho | 10, ho | 12, ho | 15, ho =>
       cases ho
       simp [Region.binds] at hd
       try simp only [hd, bsel_t]
       have HF := Lib.hid hF
       clear hF hC
       go_simp
       exact hK3 _ _ ⟨g13, v, by first | (simp [upd, bsel]; done) | simp [upd, bsel, hd], HF.out.pure hL (by decide) (by decide) (by simp)⟩
      | 1, ho | 3, ho | 8, ho =>
       cases ho
       simp [Region.binds] at hd
       have n14 : L 14 = false := dc_no hC hL (by kernel_rfl)
       obtain ⟨K2, hK2, hD⟩ := hF.d n14
       have s0 := hD.g.cell (f := 1) (u := Z.nv) rfl
       rw [HEN.out] at s0
       clear hD hK2
       try simp only [hd, bsel_t]
       have HF := Lib.hid hF
       clear hF hC
       go_simp
       exact hK3 _ _ ⟨g13, v, by first | (simp [upd, bsel]; done) | (simp [upd, bsel, n14]; done) | simp [upd, bsel, hd, n14], HF.out.pure hL (by decide) (by decide) (by simp)⟩
      | 4, ho =>
       cases ho
       simp [Region.binds] at hd
       have hq0 : (0 : Int) < (Z.ns.length : Int) := hi0
       try simp only [hd, bsel_t]
       have HF := Lib.hid hF
       clear hF hC
       go_simp
       exact hK3 _ _ ⟨g13, v, by first | (simp [upd, bsel]; done) | simp [upd, bsel, hd], HF.out.pure hL (by decide) (by decide) (by simp)⟩
      | 6, ho | 11, ho =>
       cases ho
       simp [Region.binds] at hd
       have n14 : L 14 = false := dc_no hC hL (by kernel_rfl)
       obtain ⟨K2, hK2, hD⟩ := hF.d n14
       obtain ⟨m0, m1, m2, m3⟩ := node_cells hD.g.N.own HEN.out HX0.out HEL.out
       simp only [Nat.zero_mul, Nat.zero_add] at m0 m2
       clear hD hK2
       try simp only [hd, bsel_t]
       have HF := Lib.hid hF
       clear hF hC
       go_simp
       exact hK3 _ _ ⟨g13, v, by first | (simp [upd, bsel]; done) | (simp [upd, bsel, n14]; done) | simp [upd, bsel, hd, n14], HF.out.pure hL (by decide) (by decide) (by simp)⟩
      | 13, ho =>
       cases ho
       simp [Region.binds] at hd
       have n14 : L 14 = false := dc_no hC hL (by kernel_rfl)
       try simp only [hd, bsel_t]
       have HF := Lib.hid hF
       clear hF hC
       go_simp
       exact hK3 _ _ ⟨W.heap.size, v, by first | (simp [upd, bsel]; done) | (simp [upd, bsel, n14]; done) | simp [upd, bsel, hd, n14], HF.out.lit hL n14 (by decide) (by decide) (by simp) (fun K2 h => by have := h.g.k.size; omega) (fun K2 h => h.alloc _)⟩
      | 14, ho =>
       cases ho
       simp [Region.binds] at hd
       obtain ⟨K2, hK2, hD⟩ := hF.d hL
       have l13 : L 13 = true := by simp [hd]
       obtain ⟨hg1, hg2⟩ := hF.li hL (13, g13, .cells #[.int .i64 x0.1, .int .i64 (-1), .slice AL x0.2.2.length cL] 88) (by simp) l13
       simp only [hd, bsel_t]
       have HF := Lib.hid hF
       clear hF hC
       refine step_appR el_nodG rfl (.tmp 145) (.tmp 157) rfl B (.slice (some ⟨gN, 0, none⟩) Z.ns.length cN2) Z.ns.length (ncells Z.ns Z.ls) (by rfl) (by have h := hD.g.N.own; rw [HEN.out] at h; exact h) ⟨g13, 0, none⟩ 1 1 [.int .i64 x0.1, .int .i64 (-1), .slice AL x0.2.2.length cL] (by rfl) rfl (fun j' u' hj' => by rw [show (⟨g13, 0, none⟩ : Addr).add j' = ⟨g13, j', none⟩ from by simp [Addr.add, eq_comm], cell_of_row W g13 _ _ _ _ hg2]; simpa using hj') (by intro u hu; simp at hu; rcases hu with rfl | rfl | rfl <;> rfl) (by unfold maxLen; omega) (by omega) (by have := hD.g.k.size; omega) ?_
       intro v' W' ho hg
       have HE := Lib.hid ((hD.appD (x := (x0.1, -1, x0.2.2)) (j := 0) hpB HEL.out (hD.g.N.lk 0 _ x0 HEL.out HX0.out) ho (by rw [HEN.out]; exact kept_of_grown hg)).mono (K' := KB + 40) (by have := cnt_le L 17; omega))
       clear ho hg hD
       go_simp
       exact hK3 _ _ ⟨g13, v', by first | (simp [upd, bsel]; done) | simp [upd, bsel, hd], HF.out.app hL (by decide) HE.out⟩
      | 16, ho =>
       cases ho
       simp [Region.binds] at hd
       have lA : L 14 = true := by simp [hd]
       have hE := hF.e lA hL
       obtain ⟨Av, cv, rfl, _⟩ := owns_form (show W.ownsRow B 88 3 v (Z.ns.length + 1) (ncells (Z.ns ++ [((x0.1, -1, x0.2.2) : Nod)]) (Z.ls ++ [.slice AL x0.2.2.length cL])) from (by have h := hE.g.N.own; simp only [List.length_append, List.length_cons, List.length_nil] at h; exact h))
       have s0 := hE.g.cell (f := 1) (u := Z.nv) rfl
       have f0 := frozen_of_row W w.heap.size 1 _ _ hE.g.box
       have HFF := Lib.hid (show ∃ z, GR w1 p B w.heap.size C A bs c false (BX.cells { Z with nv := z, ns := Z.ns ++ [((x0.1, -1, x0.2.2) : Nod)], ls := Z.ls ++ [.slice AL x0.2.2.length cL] }) { Z with nv := z, ns := Z.ns ++ [((x0.1, -1, x0.2.2) : Nod)], ls := Z.ls ++ [.slice AL x0.2.2.length cL] } (KB + 40) (W.setCell ⟨w.heap.size, 1, none⟩ (.slice Av (Z.ns.length + 1) cv)) from ⟨_, hE.put hpB hpP 1 _⟩)
       clear hE
       try simp only [hd, bsel_t]
       have HF := Lib.hid hF
       clear hF hC
       go_simp
       exact hK3 _ _ ⟨g13, (.slice Av (Z.ns.length + 1) cv), by first | (simp [upd, bsel]; done) | simp [upd, bsel, hd], HF.out.store lA (by decide) HFF.out⟩
      | q + 17, ho => simp at ho
     intro L act W hJ hfin
     obtain ⟨g13, v, rfl, hF⟩ := hJ
     have ll := fin_all 17 (by kernel_rfl) hfin
     have l0 := ll 0 (by decide)
     have l1 := ll 1 (by decide)
     have l2 := ll 2 (by decide)
     have l3 := ll 3 (by decide)
     have l4 := ll 4 (by decide)
     have l5 := ll 5 (by decide)
     have l6 := ll 6 (by decide)
     have l7 := ll 7 (by decide)
     have l8 := ll 8 (by decide)
     have l9 := ll 9 (by decide)
     have l10 := ll 10 (by decide)
     have l11 := ll 11 (by decide)
     have l12 := ll 12 (by decide)
     have l13 := ll 13 (by decide)
     have l14 := ll 14 (by decide)
     have l15 := ll 15 (by decide)
     have l16 := ll 16 (by decide)
     simp only [l0, l1, l2, l3, l4, l5, l6, l7, l8, l9, l10, l11, l12, l13, l14, l15, l16, bsel_t]
     have HFIN := Lib.hid (hF.f l16)
     clear hF hfin l0 l1 l2 l3 l4 l5 l6 l7 l8 l9 l10 l11 l12 l13 l14 l15 l16
     obtain ⟨z, hz⟩ := HFIN.out
     have HGC := Lib.hid hz
     have HZ2 := Lib.hid (show SX { Z with nv := z, ns := Z.ns ++ [((x0.1, -1, x0.2.2) : Nod)], ls := Z.ls ++ [.slice AL x0.2.2.length cL] } from { HZ.out with nl := by show (Z.ns ++ [_]).length ≤ 40; rw [List.length_append]; simp; omega, nd := fun y hy => (List.mem_append.1 hy).elim (HZ.out.nd y) (fun h => by simp at h; subst h; exact ⟨by show (-9223372036854775808 : Int) ≤ -1; decide, HXB.out.2⟩) })
     clear hz HFIN
     go_wp2_with fail
     go_roundw
     case rel => exact ⟨_, KB + 40, by show KB + 40 ≤ K + 10 + 60 * (Z.ns ++ [_]).length; rw [List.length_append]; simp; omega, HZ2.out, HGC.out⟩
     have e1 := lenB_of X1.out
     obtain ⟨A2, c2, e2, _⟩ := owns_form HGC.out.g.N.own
     have e3 := HGC.out.g.cell (f := 1) (u := z) rfl
     have e4 : z = .slice A2 (Z.ns ++ [((x0.1, -1, x0.2.2) : Nod)]).length c2 := e2
     rw [e4] at e3
     have e5 := lenB_of e3
     rw [e1, e5, List.length_append]
     simp
     omega
    have hi9 : ¬ (Z.ns.length : Int) < 9 := by omega
    have hd9 : decide ((Z.ns.length : Int) < 9) = false := decide_eq_false hi9
    clear hG
    go_wp2_with fail
    go_meet
    case rel => exact HGZ.out.hd hBC HZ.out.small (by omega)
   have hz0 : Z.ns.length = 0 := by omega
   rw [hz0] at x1
   clear hG
   go_wp2_with fail
   go_meet
   case rel => exact HGZ.out.hd hBC HZ.out.small (by omega)
  ·have hP3 : w.heap.size < w3.heap.size := (Array.getElem?_eq_some_iff.1 HG3.out.g.box).1
   have s0 := HG3.out.g.cell (f := 4) (u := X.ov) rfl
   have f0 := frozen_of_row w3 w.heap.size 4 _ _ HG3.out.g.box
   have hB3 : B ≤ w3.heap.size := Nat.le_trans (Nat.le_trans hBC hCw) (Nat.le_trans (by omega) HG3.out.g.k.size)
   have ho5 : ((w3.setCell ⟨w.heap.size, 4, none⟩ (.slice (some ⟨w3.heap.size, 0, none⟩) 0 0)).alloc (.cells #[] 9)).ownsRow B 9 1 (.slice (some ⟨w3.heap.size, 0, none⟩) 0 0) 0 [] := by
    have h2 := ownsNew (w3.setCell ⟨w.heap.size, 4, none⟩ (.slice (some ⟨w3.heap.size, 0, none⟩) 0 0)) [] 9 1 0 rfl (by decide)
    rw [show (w3.setCell ⟨w.heap.size, 4, none⟩ (.slice (some ⟨w3.heap.size, 0, none⟩) 0 0)).heap.size = w3.heap.size from by simp [World.setCell]] at h2
    exact owns_mono h2 hB3
   have HG5 := Lib.hid (show GR w1 p B w.heap.size C A bs c true (BX.cells { X with ov := .slice (some ⟨w3.heap.size, 0, none⟩) 0 0, os := [] }) { X with ov := .slice (some ⟨w3.heap.size, 0, none⟩) 0 0, os := [] } (K + 2 + 2) ((w3.setCell ⟨w.heap.size, 4, none⟩ (.slice (some ⟨w3.heap.size, 0, none⟩) 0 0)).alloc (.cells #[] 9)) from
    let h := (HG3.out.put hpB hpP 4 (.slice (some ⟨w3.heap.size, 0, none⟩) 0 0)).alloc (.cells #[] 9)
    ⟨{ h.g with O := ho5 }, h.rb⟩)
   go_wp2_with fail
   go_loopw [6] (fun z wr => ∃ (k : Nat) (Z : BX) (KB : Nat), k ≤ 18 ∧ z = .int .i64 (k : Int) ∧ KB ≤ K + 10 + 30 * k ∧ SX Z ∧ Z.os.length ≤ k ∧ GR w1 p B w.heap.size C A bs c true Z.cells Z KB wr) (fun z _ => 18 - (intOf z).toNat)
   case atStart => exact ⟨0, { X with ov := .slice (some ⟨w3.heap.size, 0, none⟩) 0 0, os := [] }, K + 2 + 2, by omega, rfl, by omega, { HX.out with ol := Nat.zero_le _, on := fun s h => by cases h }, Nat.le_refl _, HG5.out⟩
   clear HG5 s0 f0
   obtain ⟨k, Z, KB, hk18, rfl, hKB, hZ, hol2, hG⟩ := hrel
   have HZ := Lib.hid hZ
   have HGZ := Lib.hid hG
   have HPK := Lib.hid (pick_any p A bs c KB 3 wr hG.g.cur (by omega) (by omega))
   clear hG hZ
   go_wp2_with fail
   (with_reducible refine HPK.out.mono ?_)
   rintro e w5 ⟨y5, rfl, hy0, hy1, hC5, hK5⟩
   have hy2 := hy1 (by omega)
   have HG5 := Lib.hid (HGZ.out.draw hpB hBC hpP hK5 hC5)
   clear hC5 hK5 hy1
   by_cases hkl : (k : Int) < 15 + y5
   ·have dk : decide ((k : Int) < 15 + y5) = true := decide_eq_true hkl
    have hk17 : k < 18 := by omega
    have u0 : (0 : Int) ≤ (k : Int) := by omega
    have u1 : (k : Int) < 20 := by omega
    go_wp2_with fail
    obtain ⟨t1, ht1⟩ : ∃ t1 : ByteArray, t1 = (⟨#[97, 98, 99, 100, 101, 102, 103, 104, 105, 106, 107, 108, 109, 110, 111, 112, 113, 114, 115, 116]⟩ : ByteArray).extract k (k + 1) := ⟨_, rfl⟩
    obtain ⟨tt, htt⟩ : ∃ tt : ByteArray, tt = (⟨#[113]⟩ : ByteArray) ++ t1 := ⟨_, rfl⟩
    have HT1 := Lib.hid ht1
    have HT2 := Lib.hid htt
    have HTS := Lib.hid (show t1.size ≤ 20 from by rw [ht1, ByteArray.size_extract]; exact Nat.le_trans (Nat.sub_le _ _) (Nat.min_le_right _ _))
    have HTT := Lib.hid (show tt.size ≤ 100 from by rw [htt, ByteArray.size_append]; have := HTS.out; have h1 : (⟨#[113]⟩ : ByteArray).size = 1 := rfl; omega)
    clear ht1 htt
    refine wp_region_dc (by kernel_rfl) (fun L act W => ∃ (g7 : Nat) (v : Value), act = ⟨#[.pointer (some ⟨p, 0, none⟩), .agg #[.int .i64 X.r, .slice AN X.ns.length cN, .slice AS X.ss.length cS, .int .i64 X.e, .slice AO X.os.length cO, .slice AI X.is.length cI], undef, .pointer (some ⟨w.heap.size, 0, none⟩), .pointer (some ⟨w.heap.size + 1, 0, none⟩), .int .i64 (kv : Int), .int .i64 (k : Int), .pointer (some ⟨p, 0, none⟩), .pointer (some ⟨w.heap.size, 1, none⟩), .slice AN X.ns.length cN, .int .i64 (X.ns.length : Int), .int .i64 mo, .int .i64 (kv : Int), .pointer (some ⟨p, 0, none⟩), .int .i64 9, .bool false, .bool false, undef, undef, undef, undef, .bool false, .bool false, undef, undef, undef, undef, .bool false, .bool false, undef, undef, undef, undef, undef, undef, undef, undef, .bool false, .bool false, undef, undef, undef, undef, undef, undef, undef, undef, .bool false, .bool false, undef, undef, undef, undef, undef, undef, undef, undef, undef, undef, undef, undef, .bool false, .bool false, undef, undef, undef, undef, undef, undef, undef, undef, undef, undef, undef, undef, undef, undef, undef, .bool false, .bool false, undef, undef, undef, undef, undef, undef, undef, undef, undef, undef, undef, undef, .bool false, .bool false, undef, undef, undef, undef, undef, undef, undef, undef, undef, undef, undef, undef, undef, undef, undef, undef, undef, .bool true, .bool true, .slice (some ⟨w3.heap.size, 0, none⟩) 0 0, .pointer (some ⟨w.heap.size, 4, none⟩), .int .i64 (k : Int), .pointer (some ⟨p, 0, none⟩), .int .i64 y5, .int .i64 (15 + y5), .bool true, u120, u121, bsel (L 0) (.pointer (some ⟨w.heap.size, 4, none⟩)) (u122), bsel (L 1) (Z.ov) (u123), bsel (L 2) (.int .i64 (k : Int)) (u124), bsel (L 3) (.int .i64 (k : Int)) (u125), bsel (L 4) (.int .i64 ((k : Int) + 1)) (u126), bsel (L 5) (.string t1) (u127), bsel (L 6) (.string tt) (u128), bsel (L 7) (.slice (some ⟨g7, 0, none⟩) 1 1) (u129), bsel (L 8) (v) (u130), bsel (L 9) (.pointer (some ⟨w.heap.size, 4, none⟩)) (u131), undef, undef, undef, undef, undef, undef, undef, undef, undef, undef, undef, undef, undef, undef, undef, undef, undef, undef, undef, undef, undef, undef, undef, undef, undef, undef, undef, undef, undef], []⟩ ∧ RF p C (KB + 2) 11 8 10 (fun K2 W => GR w1 p B w.heap.size C A bs c true Z.cells Z K2 W) (fun v W => GR w1 p B w.heap.size C A bs c true Z.cells { Z with ov := v, os := Z.os ++ [tt] } (KB + 30) W) (fun W => ∃ z, GR w1 p B w.heap.size C A bs c true (BX.cells { Z with ov := z, os := Z.os ++ [tt] }) { Z with ov := z, os := Z.os ++ [tt] } (KB + 30) W) [(7, g7, .cells #[.string tt] 9)] L v W) ?h80 ?s8t ?f8i
    case h80 => exact ⟨0, undef, rfl, RF.start (HG5.out.drew)⟩
    case s8t =>
     intro L act W q oo hJ hC hL ho hd K3 hK3
     obtain ⟨g7, v, rfl, hF⟩ := hJ
     match q, ho with
     | 0, ho | 2, ho | 3, ho | 9, ho =>
      cases ho
      simp [Region.binds] at hd
      try simp only [hd, bsel_t]
      have HF := Lib.hid hF
      clear hF hC
      go_simp
      exact hK3 _ _ ⟨g7, v, by first | (simp [upd, bsel]; done) | simp [upd, bsel, hd], HF.out.pure hL (by decide) (by decide) (by simp)⟩
     | 1, ho =>
      cases ho
      simp [Region.binds] at hd
      have n8 : L 8 = false := dc_no hC hL (by kernel_rfl)
      obtain ⟨K2, hK2, hD⟩ := hF.d n8
      have s0 := hD.g.cell (f := 4) (u := Z.ov) rfl
      clear hD hK2
      try simp only [hd, bsel_t]
      have HF := Lib.hid hF
      clear hF hC
      go_simp
      exact hK3 _ _ ⟨g7, v, by first | (simp [upd, bsel]; done) | (simp [upd, bsel, n8]; done) | simp [upd, bsel, hd, n8], HF.out.pure hL (by decide) (by decide) (by simp)⟩
     | 4, ho =>
      cases ho
      simp [Region.binds] at hd
      have hw6 := IntWalk.i64_in ((k : Int) + 1) (by omega)
      try simp only [hd, bsel_t]
      have HF := Lib.hid hF
      clear hF hC
      go_simp
      exact hK3 _ _ ⟨g7, v, by first | (simp [upd, bsel]; done) | simp [upd, bsel, hd], HF.out.pure hL (by decide) (by decide) (by simp)⟩
     | 5, ho =>
      cases ho
      simp [Region.binds] at hd
      have hs5 := HT1.out.symm
      have hc1 : (0 : Int) ≤ (k : Int) + 1 := by omega
      have hc2 : (k : Int) + 1 ≤ 20 := by omega
      have hc3 : (k : Int) ≤ (k : Int) + 1 := by omega
      try simp only [hd, bsel_t]
      have HF := Lib.hid hF
      clear hF hC
      go_simp
      exact hK3 _ _ ⟨g7, v, by first | (simp [upd, bsel]; done) | simp [upd, bsel, hd], HF.out.pure hL (by decide) (by decide) (by simp)⟩
     | 6, ho =>
      cases ho
      simp [Region.binds] at hd
      have hs6 := HT2.out.symm
      have hc1 : ¬ 9223372036854775807 < 1 + t1.size := by have := HTS.out; omega
      try simp only [hd, bsel_t]
      have HF := Lib.hid hF
      clear hF hC
      go_simp
      exact hK3 _ _ ⟨g7, v, by first | (simp [upd, bsel]; done) | simp [upd, bsel, hd], HF.out.pure hL (by decide) (by decide) (by simp)⟩
     | 7, ho =>
      cases ho
      simp [Region.binds] at hd
      have n8 : L 8 = false := dc_no hC hL (by kernel_rfl)
      try simp only [hd, bsel_t]
      have HF := Lib.hid hF
      clear hF hC
      go_simp
      exact hK3 _ _ ⟨W.heap.size, v, by first | (simp [upd, bsel]; done) | (simp [upd, bsel, n8]; done) | simp [upd, bsel, hd, n8], HF.out.lit hL n8 (by decide) (by decide) (by simp) (fun K2 h => by have := h.g.k.size; omega) (fun K2 h => h.alloc _)⟩
     | 8, ho =>
      cases ho
      simp [Region.binds] at hd
      obtain ⟨K2, hK2, hD⟩ := hF.d hL
      have l7 : L 7 = true := by simp [hd]
      obtain ⟨hg1, hg2⟩ := hF.li hL (7, g7, .cells #[.string tt] 9) (by simp) l7
      simp only [hd, bsel_t]
      have HF := Lib.hid hF
      clear hF hC
      refine step_appR el_strG rfl (.tmp 123) (.tmp 129) rfl B (Z.ov) Z.os.length (strs Z.os) (by rfl) (hD.g.O) ⟨g7, 0, none⟩ 1 1 [.string tt] (by rfl) rfl (fun j' u' hj' => by rw [show (⟨g7, 0, none⟩ : Addr).add j' = ⟨g7, j', none⟩ from by simp [Addr.add, eq_comm], cell_of_row W g7 _ _ _ _ hg2]; simpa using hj') (one1 rfl) (by unfold maxLen; omega) (by omega) (by have := hD.g.k.size; omega) ?_
      intro v' W' ho hg
      have HE := Lib.hid ((hD.appO hpB ho (kept_of_grown hg)).mono (K' := KB + 30) (by have := cnt_le L 11; omega))
      clear ho hg hD
      go_simp
      exact hK3 _ _ ⟨g7, v', by first | (simp [upd, bsel]; done) | simp [upd, bsel, hd], HF.out.app hL (by decide) HE.out⟩
     | 10, ho =>
      cases ho
      simp [Region.binds] at hd
      have lA : L 8 = true := by simp [hd]
      have hE := hF.e lA hL
      obtain ⟨Av, cv, rfl, _⟩ := owns_form (show W.ownsRow B 9 1 v (Z.os.length + 1) (strs (Z.os ++ [tt])) from (by have h := hE.g.O; simp only [List.length_append, List.length_cons, List.length_nil] at h; exact h))
      have s0 := hE.g.cell (f := 4) (u := Z.ov) rfl
      have f0 := frozen_of_row W w.heap.size 4 _ _ hE.g.box
      have HFF := Lib.hid (show ∃ z, GR w1 p B w.heap.size C A bs c true (BX.cells { Z with ov := z, os := Z.os ++ [tt] }) { Z with ov := z, os := Z.os ++ [tt] } (KB + 30) (W.setCell ⟨w.heap.size, 4, none⟩ (.slice Av (Z.os.length + 1) cv)) from ⟨_, hE.put hpB hpP 4 _⟩)
      clear hE
      try simp only [hd, bsel_t]
      have HF := Lib.hid hF
      clear hF hC
      go_simp
      exact hK3 _ _ ⟨g7, (.slice Av (Z.os.length + 1) cv), by first | (simp [upd, bsel]; done) | simp [upd, bsel, hd], HF.out.store lA (by decide) HFF.out⟩
     | q + 11, ho => simp at ho
    intro L act W hJ hfin
    obtain ⟨g7, v, rfl, hF⟩ := hJ
    have ll := fin_all 11 (by kernel_rfl) hfin
    have l0 := ll 0 (by decide)
    have l1 := ll 1 (by decide)
    have l2 := ll 2 (by decide)
    have l3 := ll 3 (by decide)
    have l4 := ll 4 (by decide)
    have l5 := ll 5 (by decide)
    have l6 := ll 6 (by decide)
    have l7 := ll 7 (by decide)
    have l8 := ll 8 (by decide)
    have l9 := ll 9 (by decide)
    have l10 := ll 10 (by decide)
    simp only [l0, l1, l2, l3, l4, l5, l6, l7, l8, l9, l10, bsel_t]
    have HFIN := Lib.hid (hF.f l10)
    clear hF hfin l0 l1 l2 l3 l4 l5 l6 l7 l8 l9 l10
    obtain ⟨z, hz⟩ := HFIN.out
    have HGC := Lib.hid hz
    have HZ2 := Lib.hid (show SX { Z with ov := z, os := Z.os ++ [tt] } from { HZ.out with ol := by show (Z.os ++ [tt]).length ≤ 40; rw [List.length_append]; have := hol2; simp; omega, on := fun y hy => (List.mem_append.1 hy).elim (HZ.out.on y) (fun h => by simp at h; subst h; exact HTT.out) })
    clear hz HFIN
    go_wp2_with fail
    go_roundw
    case rel => exact ⟨k + 1, _, KB + 30, hk17, by go_num, by omega, HZ2.out, by show (Z.os ++ [tt]).length ≤ k + 1; rw [List.length_append]; have := hol2; simp; omega, HGC.out⟩
    case measure => simp [intOf]; omega
   have dk : decide ((k : Int) < 15 + y5) = false := decide_eq_false hkl
   go_wp2_with fail
   go_meet
   case rel => exact HG5.out.hd hBC HZ.out.small (by omega)
  have t0 : (sw == 0) = false := by rw [beq_eq_false_iff_ne]; omega
  have t1 : (sw == 1) = false := by rw [beq_eq_false_iff_ne]; omega
  have t2 : (sw == 2) = false := by rw [beq_eq_false_iff_ne]; omega
  have t3 : (sw == 3) = false := by rw [beq_eq_false_iff_ne]; omega
  have t4 : (sw == 4) = false := by rw [beq_eq_false_iff_ne]; omega
  have t5 : (sw == 5) = false := by rw [beq_eq_false_iff_ne]; omega
  have t6 : (sw == 6) = false := by rw [beq_eq_false_iff_ne]; omega
  have t7 : (sw == 7) = false := by rw [beq_eq_false_iff_ne]; omega
  have t8 : (sw == 8) = false := by rw [beq_eq_false_iff_ne]; omega
  have t9 : (sw == 9) = false := by rw [beq_eq_false_iff_ne]; omega
  go_wp2_with fail
  go_meet
  case rel => exact HG3.out.hd hBC HX.out.small (by omega)
 obtain ⟨⟨hk, hC, nv, sv, ov, iv, g, hbx, hr, hsm⟩, hrb⟩ := hcut
 have HK4 := Lib.hid hk
 have HC4 := Lib.hid hC
 have HR4 := Lib.hid hr
 have HSM := Lib.hid hsm
 obtain ⟨AN', cN', AS', cS', AO', cO', AI', cI', rfl, rfl, rfl, rfl⟩ := (hr wc (Kept.refl _ _)).1.form
 obtain ⟨y0, y1, y2, y3, y4, y5⟩ := row6 hbx
 obtain ⟨z0, z1, z2, z3, z4, z5, f0, f1, f2, f3, f4, f5⟩ := row6f hrb
 have HRB := Lib.hid hrb
 clear hk hC hr hsm hbx hrb HMO
 go_wp2_with fail
 have e0 := heap_setCell_same wc (w.heap.size + 1) 0 _ _ (.int .i64 g.roots) HRB.out
 have e1 := heap_setCell_same _ (w.heap.size + 1) 1 _ _ (.slice AN' g.nodes.length cN') e0
 have e2 := heap_setCell_same _ (w.heap.size + 1) 2 _ _ (.slice AS' g.sites.length cS') e1
 have e3 := heap_setCell_same _ (w.heap.size + 1) 3 _ _ (.int .i64 g.edges) e2
 have e4 := heap_setCell_same _ (w.heap.size + 1) 4 _ _ (.slice AO' g.outer.length cO') e3
 have e5 := heap_setCell_same _ (w.heap.size + 1) 5 _ _ (.slice AI' g.inner.length cI') e4
 have hKF := (((((((Kept.refl (fun q => q = w.heap.size + 1) wc).setCell (p := ⟨w.heap.size + 1, 0, none⟩) rfl (.int .i64 g.roots)).setCell (p := ⟨w.heap.size + 1, 1, none⟩) rfl (.slice AN' g.nodes.length cN')).setCell (p := ⟨w.heap.size + 1, 2, none⟩) rfl (.slice AS' g.sites.length cS')).setCell (p := ⟨w.heap.size + 1, 3, none⟩) rfl (.int .i64 g.edges)).setCell (p := ⟨w.heap.size + 1, 4, none⟩) rfl (.slice AO' g.outer.length cO')).setCell (p := ⟨w.heap.size + 1, 5, none⟩) rfl (.slice AI' g.inner.length cI'))
 (try simp only [Exit.inBlock, Exit.then])
 refine bodyPost_ret (results_cell_row rfl _ _ (w.heap.size + 1) _ #[.int .i64 g.roots, .slice AN' g.nodes.length cN', .slice AS' g.sites.length cS', .int .i64 g.edges, .slice AO' g.outer.length cO', .slice AI' g.inner.length cI'] _ _ rfl e5 Tryz.underlying31 rfl (by kernel_rfl)) rfl ?_
 have hBw : B ≤ w.heap.size := Nat.le_trans hBC hCw
 refine ⟨_, _, _, _, g, rfl, fun W hW => HR4.out W ((hKF.mono fun q hq => .inr hq).trans (hW.mono fun q hq => .inl hq)), HSM.out, (HC4.out.kept hKF (fun q hq => by omega)).mono (by omega), ?_⟩
 exact ((Kept.of_below HB1.out _).trans (HK4.out.mono fun q hq => by omega)).trans (hKF.mono fun q hq => by omega)

end Go.Proofs.YtijkdpdmclkmlaaGreatDoor
