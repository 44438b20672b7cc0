/- The draw of a bigraph of some kind. -/
import Derived.Test.YtijkdpdmclkmlaaGreatDoorProg
import Derived.Test.YtijkdpdmclkmlaaGreatDoorJ0
import Derived.Test.YtijkdpdmclkmlaaGreatDoorJ23
import Derived.Test.YtijkdpdmclkmlaaGreatDoorJ33
import Derived.BigQuiet
set_option linter.unusedSimpArgs false
set_option linter.unusedVariables false
set_option maxRecDepth 100000
set_option maxHeartbeats 16000000
namespace Go.Proofs.YtijkdpdmclkmlaaGreatDoor
open Go.RowKit
theorem small_places (r : Int) (ss : List Int) (hr : -1000 ≤ r ∧ r ≤ 1000) (hl : ss.length ≤ 1000) (hb : ∀ p ∈ ss, -9223372036854775808 ≤ p) : SmallG ⟨r, [], ss, 0, [], []⟩ :=
  { nodes := Nat.zero_le _, links := fun x hx => (nomatch hx), sites := hl, outer := Nat.zero_le _, onames := fun s hs => (nomatch hs), inner := Nat.zero_le _, inames := fun x hx => (nomatch hx), edges := by show (-1000 : Int) ≤ 0 ∧ (0 : Int) ≤ 1000; omega, roots := hr, pars := fun x hx => (nomatch hx), sits := hb }
theorem idG_small {n : Nat} {l : List ByteArray} (hn : n ≤ 1000) (hl : l.length ≤ 1000) (hz : ∀ s ∈ l, s.size ≤ 1000) : SmallG (idG n l) :=
  { nodes := Nat.zero_le _, links := fun x hx => (nomatch hx), sites := by show ((List.range n).map _).length ≤ 1000; rw [List.length_map, List.length_range]; exact hn, outer := hl, onames := hz
    inner := by show ((List.range l.length).map _).length ≤ 1000; rw [List.length_map, List.length_range]; exact hl
    inames := fun x hx => by
      obtain ⟨i, hi, rfl⟩ := List.mem_map.1 hx
      have hi2 := List.mem_range.1 hi
      exact hz _ (by simp [List.getD, hi2])
    edges := by show (-1000 : Int) ≤ 0 ∧ (0 : Int) ≤ 1000; omega, roots := by show -1000 ≤ ((n : Nat) : Int) ∧ ((n : Nat) : Int) ≤ 1000; omega, pars := fun x hx => (nomatch hx)
    sits := fun p hp => by
      obtain ⟨i, hi, rfl⟩ := List.mem_map.1 hp
      have hi2 := List.mem_range.1 hi
      omega }
theorem permG_small {t : List Int} (hl : t.length ≤ 1000) (hb : ∀ x ∈ t, -1000 ≤ x ∧ x ≤ 1000) : SmallG (permG t) :=
 small_places _ _ (by omega) (by rw [List.length_map]; exact hl) fun p hp => by
  obtain ⟨x, hx, rfl⟩ := List.mem_map.1 hp
  have := hb x hx
  omega
theorem mergeG_small {n : Nat} (hn : n ≤ 1000) : SmallG (mergeG n) :=
 small_places _ _ (by omega) (by rw [List.length_replicate]; exact hn) fun p hp => by
  have := (List.mem_replicate.1 hp).2
  omega
theorem zeroG_small : SmallG zeroG := small_places _ _ (by omega) (Nat.zero_le _) fun p hp => (nomatch hp)
theorem subG_small {f t o : List ByteArray} (hf : f.length ≤ 1000) (hfz : ∀ s ∈ f, s.size ≤ 1000) (ho : o.length ≤ 1000) (hoz : ∀ s ∈ o, s.size ≤ 1000) : SmallG (subG f t o) :=
  { nodes := Nat.zero_le _, links := fun x hx => (nomatch hx), sites := Nat.zero_le _, outer := ho, onames := hoz
    inner := by show ((List.range f.length).map _).length ≤ 1000; rw [List.length_map, List.length_range]; exact hf
    inames := fun x hx => by
      obtain ⟨i, hi, rfl⟩ := List.mem_map.1 hx
      have hi2 := List.mem_range.1 hi
      exact hfz _ (by simp [List.getD, hi2])
    edges := by show (-1000 : Int) ≤ 0 ∧ (0 : Int) ≤ 1000; omega, roots := by show (-1000 : Int) ≤ 0 ∧ (0 : Int) ≤ 1000; omega, pars := fun x hx => (nomatch hx), sits := fun p hp => (nomatch hp) }
theorem ionG_small {c : Int} {n o : List ByteArray} (hn : n.length ≤ 1000) (ho : o.length ≤ 1000) (hoz : ∀ s ∈ o, s.size ≤ 1000) : SmallG (ionG c n o) :=
  { nodes := by show (1 : Nat) ≤ 1000; omega
    links := fun x hx => by
      have : x = (c, -1, n.map (atS o)) := by simpa [ionG] using hx
      rw [this]; show (n.map _).length ≤ 1000; rw [List.length_map]; exact hn
    sites := by show (1 : Nat) ≤ 1000; omega, outer := ho, onames := hoz, inner := Nat.zero_le _, inames := fun x hx => (nomatch hx), edges := by show (-1000 : Int) ≤ 0 ∧ (0 : Int) ≤ 1000; omega, roots := by show (-1000 : Int) ≤ 1 ∧ (1 : Int) ≤ 1000; omega
    pars := fun x hx => by
      have : x = (c, -1, n.map (atS o)) := by simpa [ionG] using hx
      rw [this]; show (-9223372036854775808 : Int) ≤ -1; omega
    sits := fun p hp => by
      have : p = 0 := by simpa [ionG] using hp
      omega }
theorem fst_small {g : Gr} (h : SmallG g) (i : Nat) : (fstE g i).size ≤ 1000 := by
 unfold fstE
 by_cases hl : 0 < (endsG g (i : Int)).length
 ·have hm : (endsG g (i : Int)).getD 0 default ∈ endsG g (i : Int) := by simp [List.getD, hl]
  generalize (endsG g (i : Int)).getD 0 default = y at hm ⊢
  unfold endsG endsTo at hm
  obtain ⟨k, hk, rfl⟩ := List.mem_map.1 hm
  have hk2 := List.mem_range.1 (List.mem_filter.1 hk).1
  exact h.inames _ (by unfold wiA; simp [List.getD, hk2])
 have : (endsG g (i : Int)) = [] := List.length_eq_zero_iff.1 (by omega)
 rw [this]
 decide
theorem sort_small {l : List ByteArray} {n z : Nat} (h1 : l.length ≤ n) (h2 : ∀ s ∈ l, s.size ≤ z) : (sortS l).length ≤ n ∧ ∀ s ∈ sortS l, s.size ≤ z := ⟨Nat.le_trans (sortS_len l) h1, fun s hs => h2 s (sortS_mem.1 hs)⟩
theorem invSG_small {g : Gr} (h : SmallG g) (h0 : g.roots = 0) : SmallG (invSG g) := by
 unfold invSG
 rw [if_neg (by omega)]
 have hz : ∀ s ∈ fstL g, s.size ≤ 1000 := fun s hs => by
  unfold fstL at hs
  obtain ⟨i, _, rfl⟩ := List.mem_map.1 hs
  exact fst_small h i
 have hs := sort_small (l := fstL g) (n := 1000) (z := 1000) (by rw [fstL_len]; exact h.outer) hz
 exact subG_small h.outer h.onames hs.1 hs.2

theorem plain_any (p : Nat) (A : Option Addr) (bs : List Int) (c K Bs : Nat) (gv : Value) (sig : List Ct) (w : World) (hC : Cur w p A bs c K) (hK : K ≤ 100000000000) (hpS : p < Bs) (hS : w.ownsRow Bs 44 3 gv sig.length (sig.flatMap encCt)) (hsz : SmallS sig) (hpt : ∀ c ∈ sig, c.2.1 ≤ 4) :
  Calls Tryz.prog 157 #[.pointer (some ⟨p, 0, none⟩), gv] w fun e w' => ∃ nv sv ov iv g, e = .returned (.agg #[.int .i64 g.roots, nv, sv, .int .i64 g.edges, ov, iv]) ∧ RK w.heap.size w' nv sv ov iv g ∧ SmallG g ∧ Cur w' p A bs c (K + 30000) ∧ Kept (fun q => q = p) w w' := by
 have hpw := hC.lt
 obtain ⟨AG, cG, rfl, hS⟩ := owns_form hS
 obtain ⟨w0, hw0, hb0, hs0, hR0⟩ := laid1 w (.cells #[.int .i64 0, .slice none 0 0, .slice none 0 0, .int .i64 0, .slice none 0 0, .slice none 0 0] 31)
 have HRR := Lib.hid (show ∀ W, Kept (fun q => q = p) w0 W → W.heap[w.heap.size]? = some (.cells #[.int .i64 0, .slice none 0 0, .slice none 0 0, .int .i64 0, .slice none 0 0, .slice none 0 0] 31) from fun W hk => (hk.block _ (by omega) (by omega)).trans hR0)
 have HKX := Lib.hid (Kept.of_below hb0 (fun q => q = p))
 have HS0 := Lib.hid hs0
 have hsl := hsz.len
 have hlw : w.heap.size < w0.heap.size := by omega
 have HSO := Lib.hid (show ∀ W, Kept (fun q => q = p) w0 W → W.ownsRow Bs 44 3 (.slice AG sig.length cG) sig.length (sig.flatMap encCt) from fun W hk => ownsK (owns_below hS hb0 (Nat.le_refl _)) hk (fun g hg e => by have := (hS.lt g hg).1; omega))
 have HSG := Lib.hid (show ∀ W, Kept (fun q => q = p) w0 W → RSl RCt 3 W (.slice AG sig.length cG) sig from fun W hk => ct_rsl (HSO.out W hk) hsz.len)
 have H1 := Lib.hid (pick_any p A bs c K 9 w0 (hC.below hb0) (by omega) (by omega))
 have HW0 := Lib.hid (show w.alloc (.cells #[.int .i64 0, .slice none 0 0, .slice none 0 0, .int .i64 0, .slice none 0 0, .slice none 0 0] 31) = w0 from hw0.symm)
 clear hC hb0 hR0 hw0 hS hs0
 go_enter Tryz.func157, Tryz.ntmps157
 go_wp2_with fail
 rw [HW0.out]
 (with_reducible refine H1.out.mono ?_)
 rintro e w1 ⟨x, rfl, hx0, hx1, hC1, hK1⟩
 have HC1 := Lib.hid hC1
 have HK1 := Lib.hid hK1
 clear H1 hx0 hx1 hC1 hK1
 by_cases h0 : x = 0
 ·subst h0
  have H2 := Lib.hid (pick_any p A bs c (K + 2) 4 w1 HC1.out (by omega) (by omega))
  go_wp2_with fail
  (with_reducible refine H2.out.mono ?_)
  rintro e w2 ⟨n, rfl, hn0, hn1, hc, hk⟩
  obtain ⟨n, rfl⟩ := Int.eq_ofNat_of_zero_le hn0
  have hn3 : n ≤ 3 := by have := hn1 (by omega); omega
  have HK2 := Lib.hid (HK1.out.trans hk)
  have H3 := Lib.hid (names3_any p A bs c _ w2 hc (by omega))
  clear H2 hn0 hn1 hc hk
  go_wp2_with fail
  (with_reducible refine H3.out.mono ?_)
  rintro e w3 ⟨v, l, rfl, hd, hc, hk⟩
  obtain ⟨AV, dV, rfl, hcv⟩ := hd.ex
  have HK3 := Lib.hid (HK2.out.trans hk)
  have HC3 := Lib.hid hc
  have HOL := Lib.hid (sort_small hd.len hd.sz)
  have H4 := Lib.hid (l2Sorted_any AV dV l w3 (by have := hd.len; omega) (hcv w3 (Kept.refl _ _)))
  clear H3 hd hc hk hcv
  go_wp2_with fail
  (with_reducible refine H4.out.mono ?_)
  rintro e w4 ⟨go, co, rfl, hu, hb⟩
  obtain ⟨outs, ho⟩ : ∃ outs, outs = sortS l := ⟨_, rfl⟩
  rw [← ho] at hu HOL ⊢
  have HC4 := Lib.hid (HC3.out.below hb)
  have HK4 := Lib.hid (HK3.out.trans (Kept.of_below hb _))
  have H5 := Lib.hid (l3Identity_any n (some ⟨go, 0, none⟩) co outs w4 (by omega) (by have := HOL.out.1; omega) (Cells.of_owns hu))
  clear H4 hu hb ho
  go_wp2_with fail
  (with_reducible refine H5.out.mono ?_)
  rintro e w5 ⟨X, rfl, hXg, hr⟩
  clear H5
  have HSM := Lib.hid (show SmallG X.g from by rw [hXg]; exact idG_small (by omega) (by have := HOL.out.1; omega) (fun s hs => by have := HOL.out.2 s hs; omega))
  have HCJ := Lib.hid (HC4.out.below hr.bel)
  have HKJ := Lib.hid (HK4.out.trans (Kept.of_below hr.bel _))
  have hsz0 := HK4.out.size
  have hszj := hr.bel.size
  obtain ⟨xr, xe, xnv, xsv, xov, xiv, xns, xls, xss, xos, xis⟩ := X
  obtain ⟨YN, dN, YS, dS, YO, dO, YI, dI, e1, e2, e3, e4⟩ := hr.ob.form
  dsimp only at e1 e2 e3 e4
  subst e1 e2 e3 e4
  have HOB := Lib.hid hr.ob
  clear hr hXg
  simp only [BX.cells]
  have hRW := HRR.out w5 HKJ.out
  obtain ⟨z0, z1, z2, z3, z4, z5, f0, f1, f2, f3, f4, f5⟩ := row6f hRW
  clear hRW
  go_wp2_with fail
  have hf := draw6 (K' := K + 30000) (HRR.out w5 HKJ.out) ((HOB.out.rk HSM.out).mono (by omega)) (HCJ.out) hpw (by omega) (HKX.out.trans HKJ.out)
  (try simp only [Exit.inBlock, Exit.then])
  refine bodyPost_ret (results_cell_row rfl _ _ w.heap.size _ _ _ _ rfl hf.1 Tryz.underlying31 rfl (by kernel_rfl)) rfl ?_
  exact ⟨_, _, _, _, BX.g ⟨xr, xe, .slice YN xns.length dN, .slice YS xss.length dS, .slice YO xos.length dO, .slice YI xis.length dI, xns, xls, xss, xos, xis⟩, rfl, hf.2.1, HSM.out, hf.2.2.1, hf.2.2.2⟩
 have e0 : (x == 0) = false := by simpa using h0
 by_cases h1 : x = 1
 ·subst h1
  have H2 := Lib.hid (pick_any p A bs c (K + 2) 4 w1 HC1.out (by omega) (by omega))
  go_wp2_with fail
  (with_reducible refine H2.out.mono ?_)
  rintro e w2 ⟨n, rfl, hn0, hn1, hc, hk⟩
  obtain ⟨n, rfl⟩ := Int.eq_ofNat_of_zero_le hn0
  have hn3 : n ≤ 3 := by have := hn1 (by omega); omega
  have HK2 := Lib.hid (HK1.out.trans hk)
  have H3 := Lib.hid (order_any p A bs c _ n w2 hc (by omega) (by omega))
  clear H2 hn0 hn1 hc hk
  go_wp2_with fail
  (with_reducible refine H3.out.mono ?_)
  rintro e w3 ⟨v, l, rfl, hd, hc, hk⟩
  obtain ⟨AV, dV, rfl, hcv⟩ := hd.ex
  have HK3 := Lib.hid (HK2.out.trans hk)
  have HC3 := Lib.hid hc
  have HDL := Lib.hid (And.intro hd.len hd.bd)
  have H4 := Lib.hid (l3Permutation_any l AV dV w3 (by have := hd.len; omega) (fun x hx => by have := hd.bd x hx; omega) (hcv w3 (Kept.refl _ _)))
  clear H3 hd hc hk hcv
  go_wp2_with fail
  (with_reducible refine H4.out.mono ?_)
  rintro e w4 ⟨X, rfl, hXg, hr⟩
  clear H4
  have HSM := Lib.hid (show SmallG X.g from by rw [hXg]; exact permG_small (by have := HDL.out.1; omega) (fun x hx => by have := HDL.out.2 x hx; omega))
  have HCJ := Lib.hid (HC3.out.below hr.bel)
  have HKJ := Lib.hid (HK3.out.trans (Kept.of_below hr.bel _))
  have hsz0 := HK3.out.size
  have hszj := hr.bel.size
  obtain ⟨xr, xe, xnv, xsv, xov, xiv, xns, xls, xss, xos, xis⟩ := X
  obtain ⟨YN, dN, YS, dS, YO, dO, YI, dI, e1, e2, e3, e4⟩ := hr.ob.form
  dsimp only at e1 e2 e3 e4
  subst e1 e2 e3 e4
  have HOB := Lib.hid hr.ob
  clear hr hXg
  simp only [BX.cells]
  have hRW := HRR.out w4 HKJ.out
  obtain ⟨z0, z1, z2, z3, z4, z5, f0, f1, f2, f3, f4, f5⟩ := row6f hRW
  clear hRW
  go_wp2_with fail
  have hf := draw6 (K' := K + 30000) (HRR.out w4 HKJ.out) ((HOB.out.rk HSM.out).mono (by omega)) (HCJ.out) hpw (by omega) (HKX.out.trans HKJ.out)
  (try simp only [Exit.inBlock, Exit.then])
  refine bodyPost_ret (results_cell_row rfl _ _ w.heap.size _ _ _ _ rfl hf.1 Tryz.underlying31 rfl (by kernel_rfl)) rfl ?_
  exact ⟨_, _, _, _, BX.g ⟨xr, xe, .slice YN xns.length dN, .slice YS xss.length dS, .slice YO xos.length dO, .slice YI xis.length dI, xns, xls, xss, xos, xis⟩, rfl, hf.2.1, HSM.out, hf.2.2.1, hf.2.2.2⟩
 have e1 : (x == 1) = false := by simpa using h1
 by_cases h2 : x = 2
 ·subst h2
  have H2 := Lib.hid (pick_any p A bs c (K + 2) 5 w1 HC1.out (by omega) (by omega))
  go_wp2_with fail
  (with_reducible refine H2.out.mono ?_)
  rintro e w2 ⟨n, rfl, hn0, hn1, hc, hk⟩
  have HC2 := Lib.hid hc
  have HK2 := Lib.hid (HK1.out.trans hk)
  have hn4 : n ≤ 4 := by have := hn1 (by omega); omega
  have H3 := Lib.hid (specMergeOf_any n w2)
  clear H2 hn1 hc hk
  go_wp2_with fail
  (with_reducible refine H3.out.mono ?_)
  rintro e w3 ⟨X, rfl, hXg, hr⟩
  clear H3
  have HSM := Lib.hid (show SmallG X.g from by rw [hXg]; exact (by split; exact mergeG_small (by omega); exact zeroG_small))
  have HCJ := Lib.hid (HC2.out.below hr.bel)
  have HKJ := Lib.hid (HK2.out.trans (Kept.of_below hr.bel _))
  have hsz0 := HK2.out.size
  have hszj := hr.bel.size
  obtain ⟨xr, xe, xnv, xsv, xov, xiv, xns, xls, xss, xos, xis⟩ := X
  obtain ⟨YN, dN, YS, dS, YO, dO, YI, dI, e1, e2, e3, e4⟩ := hr.ob.form
  dsimp only at e1 e2 e3 e4
  subst e1 e2 e3 e4
  have HOB := Lib.hid hr.ob
  clear hr hXg
  simp only [BX.cells]
  obtain ⟨wB, hwB, hbB, -, hbx⟩ := laid1 w3 (.cells #[.int .i64 xr, .slice YN xns.length dN, .slice YS xss.length dS, .int .i64 xe, .slice YO xos.length dO, .slice YI xis.length dI] 31)
  obtain ⟨y0, y1, y2, y3, y4, y5⟩ := row6 hbx
  have HCB := Lib.hid (HCJ.out.below hbB)
  have HKB := Lib.hid (HKJ.out.trans (Kept.of_below hbB _))
  have HOBB := Lib.hid (HOB.out.below hbB)
  have HWB := Lib.hid hwB
  clear hwB hbB hbx
  have hRW := HRR.out wB HKB.out
  obtain ⟨z0, z1, z2, z3, z4, z5, f0, f1, f2, f3, f4, f5⟩ := row6f hRW
  clear hRW
  go_wp2_with (rw [← HWB.out])
  have hf := draw6 (K' := K + 30000) (HRR.out wB HKB.out) ((HOBB.out.rk HSM.out).mono (by omega)) (HCB.out) hpw (by omega) (HKX.out.trans HKB.out)
  (try simp only [Exit.inBlock, Exit.then])
  refine bodyPost_ret (results_cell_row rfl _ _ w.heap.size _ _ _ _ rfl hf.1 Tryz.underlying31 rfl (by kernel_rfl)) rfl ?_
  exact ⟨_, _, _, _, BX.g ⟨xr, xe, .slice YN xns.length dN, .slice YS xss.length dS, .slice YO xos.length dO, .slice YI xis.length dI, xns, xls, xss, xos, xis⟩, rfl, hf.2.1, HSM.out, hf.2.2.1, hf.2.2.2⟩
 have e2 : (x == 2) = false := by simpa using h2
 by_cases h3 : x = 3
 ·subst h3
  have H2 := Lib.hid (wires_any p A bs c (K + 2) w1 HC1.out (by omega))
  go_wp2_with fail
  (with_reducible refine H2.out.mono ?_)
  rintro e w2 ⟨nv', sv', ov', iv', g, rfl, hr9, hsm9, hC9, hK9⟩
  clear H2
  obtain ⟨AN', cN', AS', cS', AO', cO', AI', cI', rfl, rfl, rfl, rfl⟩ := hr9.now.form
  have HSM := Lib.hid hsm9
  have HCJ := Lib.hid hC9
  have HKJ := Lib.hid (HK1.out.trans hK9)
  have hsz1 := HK1.out.size
  have HRJ := Lib.hid hr9
  clear hr9 hsm9 hC9 hK9
  have hRW := HRR.out w2 HKJ.out
  obtain ⟨z0, z1, z2, z3, z4, z5, f0, f1, f2, f3, f4, f5⟩ := row6f hRW
  clear hRW
  go_wp2_with fail
  have hf := draw6 (K' := K + 30000) (HRR.out w2 HKJ.out) (HRJ.out.mono (by omega)) (HCJ.out) hpw (by omega) (HKX.out.trans HKJ.out)
  (try simp only [Exit.inBlock, Exit.then])
  refine bodyPost_ret (results_cell_row rfl _ _ w.heap.size _ _ _ _ rfl hf.1 Tryz.underlying31 rfl (by kernel_rfl)) rfl ?_
  exact ⟨_, _, _, _, g, rfl, hf.2.1, HSM.out, hf.2.2.1, hf.2.2.2⟩
 have e3 : (x == 3) = false := by simpa using h3
 by_cases h4 : x = 4
 ·subst h4
  obtain ⟨wa, hwa, hbwa, hzwa, hcwa⟩ := laid1 w1 (.cells #[.string ⟨#[97]⟩, .string ⟨#[98]⟩] 9)
  have HNwa := Lib.hid hwa
  have HBwa := Lib.hid hbwa
  have HLwa := Lib.hid hcwa
  have hswa := hbwa.size
  clear hwa hbwa hcwa
  obtain ⟨wb, hwb, hbwb, hzwb, hcwb⟩ := laid1 wa (.cells #[.string ⟨#[120]⟩, .string ⟨#[121]⟩] 9)
  have HNwb := Lib.hid hwb
  have HBwb := Lib.hid hbwb
  have HLwb := Lib.hid hcwb
  have hswb := hbwb.size
  clear hwb hbwb hcwb
  have HCb := Lib.hid ((HC1.out.below HBwa.out).below HBwb.out)
  have HKb := Lib.hid ((HK1.out.trans (Kept.of_below HBwa.out _)).trans (Kept.of_below HBwb.out _))
  have H2 := Lib.hid (show Calls Tryz.prog 113 #[.pointer (some ⟨p, 0, none⟩), .slice (some ⟨w1.heap.size + 1, 0, none⟩) 2 2] wb _ from ofG_any p A bs c (K + 2) (w1.heap.size + 1) 2 [⟨#[120]⟩, ⟨#[121]⟩] wb HCb.out (by omega) (by decide) (by decide) (cellsG (by rw [← hzwa]; exact HLwb.out)) (by have := HC1.out.lt; omega))
  have hsz1 := HK1.out.size
  clear hzwa hzwb
  go_wp2_with fail
  rw [← HNwa.out, ← HNwb.out]
  (with_reducible refine H2.out.mono ?_)
  rintro e w2 ⟨s, rfl, hs, hc, hk⟩
  have HSS := Lib.hid (show s.size ≤ 100 from by
   simp only [List.mem_cons, List.not_mem_nil, or_false] at hs
   rcases hs with rfl | rfl <;> decide)
  have HC2 := Lib.hid hc
  have HK2 := Lib.hid (HKb.out.trans hk)
  have hla := hk.block w1.heap.size (by have := (Array.getElem?_eq_some_iff.1 HLwa.out).1; omega) (by have := HC1.out.lt; omega)
  have HLA2 := Lib.hid (hla.trans ((HBwb.out.block w1.heap.size (by have := HBwb.out.size; have := (Array.getElem?_eq_some_iff.1 HLwa.out).1; omega)).trans HLwa.out))
  clear hc hk hs hla H2
  obtain ⟨wc, hwc, hbwc, hzwc, hcwc⟩ := laid1 w2 (.cells #[.string s, .string ⟨#[122]⟩] 9)
  have HNwc := Lib.hid hwc
  have HBwc := Lib.hid hbwc
  have HLwc := Lib.hid hcwc
  have hswc := hbwc.size
  clear hwc hbwc hcwc
  have HCc := Lib.hid (HC2.out.below HBwc.out)
  have HKc := Lib.hid (HK2.out.trans (Kept.of_below HBwc.out _))
  have HLAc := Lib.hid ((HBwc.out.block w1.heap.size (Array.getElem?_eq_some_iff.1 HLA2.out).1).trans HLA2.out)
  obtain ⟨g0, hg0⟩ : ∃ g0, g0 = subG [⟨#[97]⟩, ⟨#[98]⟩] [s, ⟨#[122]⟩] (sortS [s, ⟨#[122]⟩]) := ⟨_, rfl⟩
  have HSO := Lib.hid (sort_small (l := [s, ⟨#[122]⟩]) (n := 2) (z := 100) (Nat.le_refl _) (fun x hx => by
   simp only [List.mem_cons, List.not_mem_nil, or_false] at hx
   rcases hx with rfl | rfl
   ·exact HSS.out
   decide))
  have HG0 := Lib.hid (show SmallG g0 ∧ g0.roots = 0 from by
   rw [hg0]
   exact ⟨subG_small (by decide) (by decide) (by have := HSO.out.1; omega) (fun x hx => by have := HSO.out.2 x hx; omega), rfl⟩)
  have HG0E := Lib.hid hg0
  have H3 := Lib.hid (show Calls Tryz.prog 123 #[.slice (some ⟨w1.heap.size, 0, none⟩) 2 2, .slice (some ⟨w2.heap.size, 0, none⟩) 2 2] wc _ from l3Substitution_any (some ⟨w1.heap.size, 0, none⟩) (some ⟨w2.heap.size, 0, none⟩) 2 2 [⟨#[97]⟩, ⟨#[98]⟩] [s, ⟨#[122]⟩] wc (by decide) rfl (cellsG HLAc.out) (cellsG HLwc.out))
  clear hzwc hg0
  go_wp2_with fail
  rw [← HNwc.out]
  (with_reducible refine H3.out.mono ?_)
  rintro e w3 ⟨Z, rfl, hZg, hrz⟩
  obtain ⟨zr, ze, znv, zsv, zov, ziv, zns, zls, zss, zos, zis⟩ := Z
  obtain ⟨ZN, eN, ZS, eS, ZO, eO, ZI, eI, e1, e2, e3, e4⟩ := hrz.ob.form
  dsimp only at e1 e2 e3 e4
  subst e1 e2 e3 e4
  have HZ3 := Lib.hid (hrz.ob.rgr (by rw [hZg, ← HG0E.out]; exact HG0.out.1))
  have HGZ := Lib.hid (hZg.trans HG0E.out.symm)
  have HC3 := Lib.hid (HCc.out.below hrz.bel)
  have HK3 := Lib.hid (HKc.out.trans (Kept.of_below hrz.bel _))
  clear hrz hZg H3
  simp only [BX.cells]
  have H4 := Lib.hid (show Calls Tryz.prog 70 #[.slice AG sig.length cG, .agg #[.int .i64 zr, .slice ZN zns.length eN, .slice ZS zss.length eS, .int .i64 ze, .slice ZO zos.length eO, .slice ZI zis.length eI]] w3 _ from specInverseOf_any sig (BX.g ⟨zr, ze, .slice ZN zns.length eN, .slice ZS zss.length eS, .slice ZO zos.length eO, .slice ZI zis.length eI, zns, zls, zss, zos, zis⟩) _ _ _ _ _ w3 (by rw [HGZ.out]; exact HG0.out.1) hsz (HSG.out w3 HK3.out) HZ3.out)
  go_wp2_with fail
  (with_reducible refine H4.out.mono ?_)
  rintro e w4 ⟨X, rfl, hXg, hr⟩
  clear H4
  have HSM := Lib.hid (show SmallG X.g from by rw [hXg]; exact (by split; rw [HGZ.out]; exact invSG_small HG0.out.1 HG0.out.2; exact zeroG_small))
  have HCJ := Lib.hid (HC3.out.below hr.bel)
  have HKJ := Lib.hid (HK3.out.trans (Kept.of_below hr.bel _))
  have hsz0 := HK3.out.size
  have hszj := hr.bel.size
  obtain ⟨xr, xe, xnv, xsv, xov, xiv, xns, xls, xss, xos, xis⟩ := X
  obtain ⟨YN, dN, YS, dS, YO, dO, YI, dI, e1, e2, e3, e4⟩ := hr.ob.form
  dsimp only at e1 e2 e3 e4
  subst e1 e2 e3 e4
  have HOB := Lib.hid hr.ob
  clear hr hXg
  simp only [BX.cells]
  obtain ⟨wB, hwB, hbB, -, hbx⟩ := laid1 w4 (.cells #[.int .i64 xr, .slice YN xns.length dN, .slice YS xss.length dS, .int .i64 xe, .slice YO xos.length dO, .slice YI xis.length dI] 31)
  obtain ⟨y0, y1, y2, y3, y4, y5⟩ := row6 hbx
  have HCB := Lib.hid (HCJ.out.below hbB)
  have HKB := Lib.hid (HKJ.out.trans (Kept.of_below hbB _))
  have HOBB := Lib.hid (HOB.out.below hbB)
  have HWB := Lib.hid hwB
  clear hwB hbB hbx
  have hRW := HRR.out wB HKB.out
  obtain ⟨z0, z1, z2, z3, z4, z5, f0, f1, f2, f3, f4, f5⟩ := row6f hRW
  clear hRW
  go_wp2_with (rw [← HWB.out])
  have hf := draw6 (K' := K + 30000) (HRR.out wB HKB.out) ((HOBB.out.rk HSM.out).mono (by omega)) (HCB.out) hpw (by omega) (HKX.out.trans HKB.out)
  (try simp only [Exit.inBlock, Exit.then])
  refine bodyPost_ret (results_cell_row rfl _ _ w.heap.size _ _ _ _ rfl hf.1 Tryz.underlying31 rfl (by kernel_rfl)) rfl ?_
  exact ⟨_, _, _, _, BX.g ⟨xr, xe, .slice YN xns.length dN, .slice YS xss.length dS, .slice YO xos.length dO, .slice YI xis.length dI, xns, xls, xss, xos, xis⟩, rfl, hf.2.1, HSM.out, hf.2.2.1, hf.2.2.2⟩
 have e4 : (x == 4) = false := by simpa using h4
 by_cases h5 : x = 5
 ·subst h5
  obtain ⟨wa, hwa, hbwa, hzwa, hcwa⟩ := laid1 w1 (.cells #[.string ⟨#[120]⟩, .string ⟨#[121]⟩] 9)
  have HNwa := Lib.hid hwa
  have HBwa := Lib.hid hbwa
  have HLwa := Lib.hid hcwa
  have hswa := hbwa.size
  clear hwa hbwa hcwa
  have HCb := Lib.hid (HC1.out.below HBwa.out)
  have HKb := Lib.hid (HK1.out.trans (Kept.of_below HBwa.out _))
  have H2 := Lib.hid (show Calls Tryz.prog 113 #[.pointer (some ⟨p, 0, none⟩), .slice (some ⟨w1.heap.size, 0, none⟩) 2 2] wa _ from ofG_any p A bs c (K + 2) w1.heap.size 2 [⟨#[120]⟩, ⟨#[121]⟩] wa HCb.out (by omega) (by decide) (by decide) (cellsG HLwa.out) (by have := HC1.out.lt; omega))
  have hsz1 := HK1.out.size
  clear hzwa
  go_wp2_with fail
  rw [← HNwa.out]
  (with_reducible refine H2.out.mono ?_)
  rintro e w2 ⟨s, rfl, hs, hc, hk⟩
  have HSS := Lib.hid (show s.size ≤ 100 from by
   simp only [List.mem_cons, List.not_mem_nil, or_false] at hs
   rcases hs with rfl | rfl <;> decide)
  have HC2 := Lib.hid hc
  have HK2 := Lib.hid (HKb.out.trans hk)
  clear hc hk hs H2
  obtain ⟨wc, hwc, hbwc, hzwc, hcwc⟩ := laid1 w2 (.cells #[.string s] 9)
  have HNwc := Lib.hid hwc
  have HBwc := Lib.hid hbwc
  have HLwc := Lib.hid hcwc
  have hswc := hbwc.size
  clear hwc hbwc hcwc
  have HCc := Lib.hid (HC2.out.below HBwc.out)
  have HKc := Lib.hid (HK2.out.trans (Kept.of_below HBwc.out _))
  have HSO := Lib.hid (sort_small (l := [s]) (n := 1) (z := 100) (Nat.le_refl _) (fun x hx => by
   simp only [List.mem_cons, List.not_mem_nil, or_false] at hx
   subst hx; exact HSS.out))
  have H3 := Lib.hid (show Calls Tryz.prog 34 #[.slice AG sig.length cG, .int .i64 1, .slice (some ⟨w2.heap.size, 0, none⟩) 1 1] wc _ from specIonOf_any sig 1 (some ⟨w2.heap.size, 0, none⟩) 1 [s] _ wc hsz (by show 1 ≤ 1000; omega) (fun x hx => by
   simp only [List.mem_cons, List.not_mem_nil, or_false] at hx
   subst hx; have := HSS.out; omega) (HSG.out wc HKc.out) (cellsG HLwc.out))
  clear hzwc
  go_wp2_with fail
  rw [← HNwc.out]
  (with_reducible refine H3.out.mono ?_)
  rintro e w3 ⟨X, rfl, hXg, hr⟩
  clear H3
  have HSM := Lib.hid (show SmallG X.g from by rw [hXg]; exact (by split; exact ionG_small (by show 1 ≤ 1000; omega) (by have := HSO.out.1; omega) (fun x hx => by have := HSO.out.2 x hx; omega); exact zeroG_small))
  have HCJ := Lib.hid (HCc.out.below hr.bel)
  have HKJ := Lib.hid (HKc.out.trans (Kept.of_below hr.bel _))
  have hsz0 := HKc.out.size
  have hszj := hr.bel.size
  obtain ⟨xr, xe, xnv, xsv, xov, xiv, xns, xls, xss, xos, xis⟩ := X
  obtain ⟨YN, dN, YS, dS, YO, dO, YI, dI, e1, e2, e3, e4⟩ := hr.ob.form
  dsimp only at e1 e2 e3 e4
  subst e1 e2 e3 e4
  have HOB := Lib.hid hr.ob
  clear hr hXg
  simp only [BX.cells]
  obtain ⟨wB, hwB, hbB, -, hbx⟩ := laid1 w3 (.cells #[.int .i64 xr, .slice YN xns.length dN, .slice YS xss.length dS, .int .i64 xe, .slice YO xos.length dO, .slice YI xis.length dI] 31)
  obtain ⟨y0, y1, y2, y3, y4, y5⟩ := row6 hbx
  have HCB := Lib.hid (HCJ.out.below hbB)
  have HKB := Lib.hid (HKJ.out.trans (Kept.of_below hbB _))
  have HOBB := Lib.hid (HOB.out.below hbB)
  have HWB := Lib.hid hwB
  clear hwB hbB hbx
  have hRW := HRR.out wB HKB.out
  obtain ⟨z0, z1, z2, z3, z4, z5, f0, f1, f2, f3, f4, f5⟩ := row6f hRW
  clear hRW
  go_wp2_with (rw [← HWB.out])
  have hf := draw6 (K' := K + 30000) (HRR.out wB HKB.out) ((HOBB.out.rk HSM.out).mono (by omega)) (HCB.out) hpw (by omega) (HKX.out.trans HKB.out)
  (try simp only [Exit.inBlock, Exit.then])
  refine bodyPost_ret (results_cell_row rfl _ _ w.heap.size _ _ _ _ rfl hf.1 Tryz.underlying31 rfl (by kernel_rfl)) rfl ?_
  exact ⟨_, _, _, _, BX.g ⟨xr, xe, .slice YN xns.length dN, .slice YS xss.length dS, .slice YO xos.length dO, .slice YI xis.length dI, xns, xls, xss, xos, xis⟩, rfl, hf.2.1, HSM.out, hf.2.2.1, hf.2.2.2⟩
 have e5 : (x == 5) = false := by simpa using h5
 have H2 := Lib.hid (show Calls Tryz.prog 137 #[.pointer (some ⟨p, 0, none⟩), .slice AG sig.length cG, .int .i64 3] w1 _ from bigraph_any p A bs c (K + 2) 3 Bs _ sig w1 HC1.out (by omega) (by omega) hpS (HSO.out w1 HK1.out) hsz hpt)
 go_wp2_with fail
 (with_reducible refine H2.out.mono ?_)
 rintro e w2 ⟨nv', sv', ov', iv', g, rfl, hr9, hsm9, hC9, hK9⟩
 clear H2
 obtain ⟨AN', cN', AS', cS', AO', cO', AI', cI', rfl, rfl, rfl, rfl⟩ := hr9.now.form
 have HSM := Lib.hid hsm9
 have HCJ := Lib.hid hC9
 have HKJ := Lib.hid (HK1.out.trans hK9)
 have hsz1 := HK1.out.size
 have HRJ := Lib.hid hr9
 clear hr9 hsm9 hC9 hK9
 have hRW := HRR.out w2 HKJ.out
 obtain ⟨z0, z1, z2, z3, z4, z5, f0, f1, f2, f3, f4, f5⟩ := row6f hRW
 clear hRW
 go_wp2_with fail
 have hf := draw6 (K' := K + 30000) (HRR.out w2 HKJ.out) (HRJ.out.mono (by omega)) (HCJ.out) hpw (by omega) (HKX.out.trans HKJ.out)
 (try simp only [Exit.inBlock, Exit.then])
 refine bodyPost_ret (results_cell_row rfl _ _ w.heap.size _ _ _ _ rfl hf.1 Tryz.underlying31 rfl (by kernel_rfl)) rfl ?_
 exact ⟨_, _, _, _, g, rfl, hf.2.1, HSM.out, hf.2.2.1, hf.2.2.2⟩

end Go.Proofs.YtijkdpdmclkmlaaGreatDoor
