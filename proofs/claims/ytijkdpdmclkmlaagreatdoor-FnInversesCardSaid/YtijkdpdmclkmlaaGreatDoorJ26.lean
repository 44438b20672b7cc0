/- Tests of a bigraph: by fields, and by loops: both packages walked. -/
import Derived.Test.YtijkdpdmclkmlaaGreatDoorProg
import Derived.Test.YtijkdpdmclkmlaaGreatDoorJ0
import Derived.Test.YtijkdpdmclkmlaaGreatDoorJ25
import Derived.Test.YtijkdpdmclkmlaaGreatDoorJ13
import Derived.Test.YtijkdpdmclkmlaaGreatDoorJ6
import Derived.Test.YtijkdpdmclkmlaaGreatDoorJ1
import Derived.BigQuiet
set_option linter.unusedSimpArgs false
set_option linter.unusedVariables false
set_option maxRecDepth 100000
set_option maxHeartbeats 16000000
namespace Go.Proofs.YtijkdpdmclkmlaaGreatDoor
open Go.RowKit
theorem isPlacing_any (g : Gr) (nv sv ov iv : Value) (w : World) (hs : SmallG g) (hG : RGr w nv sv ov iv g) (he : 0 ≤ g.edges) :
  Calls Tryz.prog 108 #[.agg #[.int .i64 g.roots, nv, sv, .int .i64 g.edges, ov, iv]] w fun e w' => e = .returned (.bool (placB g)) ∧ Below w.heap.size w w' := by
 have HG := Lib.hid (show ∀ W, Below w.heap.size w W → RGr W nv sv ov iv g from fun W hb => hG.below hb)
 have HSM := Lib.hid hs
 obtain ⟨AN, cN, AS, cS, AO, cO, AI, cI, rfl, rfl, rfl, rfl⟩ := hG.form
 obtain ⟨w0, hw0, hb0, hsz0, bx0⟩ := laid1 w (.cells #[.int .i64 g.roots, .slice AN g.nodes.length cN, .slice AS g.sites.length cS, .int .i64 g.edges, .slice AO g.outer.length cO, .slice AI g.inner.length cI] 31)
 have HX := Lib.hid (keepB bx0)
 have HB0 := Lib.hid hb0
 have HW0 := Lib.hid hw0
 obtain ⟨x0, x1, x2, x3, x4, x5⟩ := row6 bx0
 rw [hw0] at x0 x1 x2 x3 x4 x5
 have n1 := hs.nodes
 have n2 := hs.outer
 have n3 := hs.inner
 have n4 := hs.edges
 have HE := Lib.hid (sum_plac he)
 clear hs hG hb0 bx0 hw0
 go_enter Tryz.func108, Tryz.ntmps108
 go_wp2_with fail
 rw [← HW0.out]
 go_ret
 exact ⟨by first | (rw [← HE.out]; done) | (rw [← HE.out]; rfl), HB0.out⟩

theorem l3Placing_any (g : Gr) (nv sv ov iv : Value) (w : World) (hs : SmallG g) (hG : RGr w nv sv ov iv g) :
  Calls Tryz.prog 173 #[.agg #[.int .i64 g.roots, nv, sv, .int .i64 g.edges, ov, iv]] w fun e w' => e = .returned (.bool (placB g)) ∧ Below w.heap.size w w' := by
 have HG := Lib.hid (show ∀ W, Below w.heap.size w W → RGr W nv sv ov iv g from fun W hb => hG.below hb)
 have HSM := Lib.hid hs
 obtain ⟨AN, cN, AS, cS, AO, cO, AI, cI, rfl, rfl, rfl, rfl⟩ := hG.form
 obtain ⟨w0, hw0, hb0, hsz0, bx0⟩ := laid1 w (.cells #[.int .i64 g.roots, .slice AN g.nodes.length cN, .slice AS g.sites.length cS, .int .i64 g.edges, .slice AO g.outer.length cO, .slice AI g.inner.length cI] 31)
 have HX := Lib.hid (keepB bx0)
 have HB0 := Lib.hid hb0
 have HW0 := Lib.hid hw0
 obtain ⟨x0, x1, x2, x3, x4, x5⟩ := row6 bx0
 rw [hw0] at x0 x1 x2 x3 x4 x5
 clear hs hG hb0 bx0 hw0
 cases c0 : ((g.nodes.length : Int) == 0)
 ·have HE := Lib.hid (show placB g = false from by rw [plac_int]; simp only [c0, Bool.and_false, Bool.false_and]; first | done | rfl)
  go_enter Tryz.func173, Tryz.ntmps173
  go_wp2_with fail
  rw [← HW0.out]
  go_ret
  exact ⟨by rw [HE.out]; rfl, HB0.out⟩
 cases c1 : (g.edges == 0)
 ·have HE := Lib.hid (show placB g = false from by rw [plac_int]; simp only [c0, c1, Bool.and_false, Bool.false_and]; first | done | rfl)
  go_enter Tryz.func173, Tryz.ntmps173
  go_wp2_with fail
  rw [← HW0.out]
  go_ret
  exact ⟨by rw [HE.out]; rfl, HB0.out⟩
 cases c2 : ((g.outer.length : Int) == 0)
 ·have HE := Lib.hid (show placB g = false from by rw [plac_int]; simp only [c0, c1, c2, Bool.and_false, Bool.false_and]; first | done | rfl)
  go_enter Tryz.func173, Tryz.ntmps173
  go_wp2_with fail
  rw [← HW0.out]
  go_ret
  exact ⟨by rw [HE.out]; rfl, HB0.out⟩
 cases c3 : ((g.inner.length : Int) == 0)
 ·have HE := Lib.hid (show placB g = false from by rw [plac_int]; simp only [c0, c1, c2, c3, Bool.and_false, Bool.false_and]; first | done | rfl)
  go_enter Tryz.func173, Tryz.ntmps173
  go_wp2_with fail
  rw [← HW0.out]
  go_ret
  exact ⟨by rw [HE.out]; rfl, HB0.out⟩
 have HE := Lib.hid (show placB g = true from by rw [plac_int]; simp only [c0, c1, c2, c3]; first | done | rfl)
 go_enter Tryz.func173, Tryz.ntmps173
 go_wp2_with fail
 rw [← HW0.out]
 go_ret
 exact ⟨by rw [HE.out]; rfl, HB0.out⟩

theorem l3Wiring_any (g : Gr) (nv sv ov iv : Value) (w : World) (hs : SmallG g) (hG : RGr w nv sv ov iv g) :
  Calls Tryz.prog 149 #[.agg #[.int .i64 g.roots, nv, sv, .int .i64 g.edges, ov, iv]] w fun e w' => e = .returned (.bool (wirB g)) ∧ Below w.heap.size w w' := by
 have HG := Lib.hid (show ∀ W, Below w.heap.size w W → RGr W nv sv ov iv g from fun W hb => hG.below hb)
 have HSM := Lib.hid hs
 obtain ⟨AN, cN, AS, cS, AO, cO, AI, cI, rfl, rfl, rfl, rfl⟩ := hG.form
 obtain ⟨w0, hw0, hb0, hsz0, bx0⟩ := laid1 w (.cells #[.int .i64 g.roots, .slice AN g.nodes.length cN, .slice AS g.sites.length cS, .int .i64 g.edges, .slice AO g.outer.length cO, .slice AI g.inner.length cI] 31)
 have HX := Lib.hid (keepB bx0)
 have HB0 := Lib.hid hb0
 have HW0 := Lib.hid hw0
 obtain ⟨x0, x1, x2, x3, x4, x5⟩ := row6 bx0
 rw [hw0] at x0 x1 x2 x3 x4 x5
 clear hs hG hb0 bx0 hw0
 cases c0 : (g.roots == 0)
 ·have HE := Lib.hid (show wirB g = false from by rw [wirB_eq]; simp only [c0, Bool.and_false, Bool.false_and]; first | done | rfl)
  go_enter Tryz.func149, Tryz.ntmps149
  go_wp2_with fail
  rw [← HW0.out]
  go_ret
  exact ⟨by rw [HE.out]; rfl, HB0.out⟩
 have HE := Lib.hid (show wirB g = true from by rw [wirB_eq]; simp only [c0]; first | done | rfl)
 go_enter Tryz.func149, Tryz.ntmps149
 go_wp2_with fail
 rw [← HW0.out]
 go_ret
 exact ⟨by rw [HE.out]; rfl, HB0.out⟩

theorem under_any (g : Gr) (nv sv ov iv : Value) (w : World) (hs : SmallG g) (hG : RGr w nv sv ov iv g) (hlo : ∀ p ∈ g.sites, p ≤ 1000) :
  Calls Tryz.prog 158 #[.agg #[.int .i64 g.roots, nv, sv, .int .i64 g.edges, ov, iv]] w fun e w' => ∃ r, e = .returned r ∧ w'.ownsRow w.heap.size 3 1 r (undG g).length (ints (undG g)) ∧ Below w.heap.size w w' := by
 have HG := Lib.hid (show ∀ W, Below w.heap.size w W → RGr W nv sv ov iv g from fun W hb => hG.below hb)
 have HSM := Lib.hid hs
 obtain ⟨AN, cN, AS, cS, AO, cO, AI, cI, rfl, rfl, rfl, rfl⟩ := hG.form
 obtain ⟨w0, hw0, hb0, hsz0, bx0⟩ := laid1 w (.cells #[.int .i64 g.roots, .slice AN g.nodes.length cN, .slice AS g.sites.length cS, .int .i64 g.edges, .slice AO g.outer.length cO, .slice AI g.inner.length cI] 31)
 have HX := Lib.hid (keepB bx0)
 have HB0 := Lib.hid hb0
 have HW0 := Lib.hid hw0
 obtain ⟨x0, x1, x2, x3, x4, x5⟩ := row6 bx0
 rw [hw0] at x0 x1 x2 x3 x4 x5
 have hn := hs.sites
 have HLO := Lib.hid (show ∀ p ∈ g.sites, -9223372036854775808 ≤ p ∧ p ≤ 1000 from fun p hp => ⟨hs.sits p hp, hlo p hp⟩)
 clear hs hG hb0 bx0 hw0 hlo
 go_enter Tryz.func158, Tryz.ntmps158
 go_wp2_with fail
 rw [← HW0.out]
 clear x0 x1 x2 x3 x4 x5
 go_loopw [3, 10] (fun u i wr => ∃ k : Nat, k ≤ g.sites.length ∧ i = .int .i64 k ∧ wr.ownsRow w0.heap.size 3 1 u k (ints ((undG g).take k)) ∧ Below w0.heap.size w0 wr)
  (fun _ i _ => g.sites.length - (intOf i).toNat)
 case atStart => exact ⟨0, Nat.zero_le _, rfl, by have h := made_rowG w0 3; rw [hsz0] at h ⊢; exact h, (Below.refl _ _).alloc (Nat.le_refl _) _⟩
 obtain ⟨k, hk, rfl, hown, hbel⟩ := hrel
 obtain ⟨AU, cU, rfl, hown⟩ := owns_form hown
 have hsz := hbel.size
 by_cases hlt : k < g.sites.length
 ·obtain ⟨A', c', eS, hcS⟩ := (HG.out wr (HB0.out.trans (hbel.mono HB0.out.size))).s
  cases eS
  obtain ⟨b, o, rfl, hc⟩ := hcS.int hlt
  have k0 := hc k hlt
  have hmem : g.sites.getD k 0 ∈ g.sites := by simp [List.getD, hlt]
  have hpl := HLO.out _ hmem
  have HT := Lib.hid (und_take hlt)
  have HO := Lib.hid hown
  have HBE := Lib.hid hbel
  clear hown hbel hc hcS hmem
  generalize g.sites.getD k 0 = p at *
  have hpr : -9223372036854775808 ≤ -1 - p ∧ -1 - p < 9223372036854775808 := by omega
  go_wp2_with (at_builtin; refine wpList_app el_intG rfl _ _ rfl w0.heap.size _ _ _ rfl HO.out [.int .i64 (-1 - p)] rfl rfl rfl (one1 rfl) (by omega) hsz ?_; intro v2 w2 ho hk2 hm2)
  have HO2 := Lib.hid (show w2.ownsRow w0.heap.size 3 1 v2 (k + 1) (ints ((undG g).take (k + 1))) from by rw [HT.out, ints_app]; exact ho)
  have HB2 := Lib.hid (below_kept HBE.out hk2 (fun q hq => (HO.out.lt q hq).1) hsz)
  clear ho hk2 hm2
  go_wp2_with fail
  go_roundw
  case rel => exact ⟨k + 1, by omega, by go_num, HO2.out, HB2.out⟩
  case measure => simp [intOf]; omega
 obtain rfl : k = g.sites.length := by omega
 have HO := Lib.hid (show wr.ownsRow w.heap.size 3 1 (.slice AU g.sites.length cU) (undG g).length (ints (undG g)) from by
  have h := owns_mono hown HB0.out.size
  rw [List.take_of_length_le (by rw [und_len]; exact Nat.le_refl _)] at h
  rw [und_len]; exact h)
 have HBE := Lib.hid (HB0.out.trans (hbel.mono HB0.out.size))
 clear hown hbel
 go_wp2_with fail
 go_ret
 exact ⟨_, rfl, HO.out, HBE.out⟩

theorem l2Holes_any (g : Gr) (nv sv ov iv : Value) (link : Int) (w : World) (hs : SmallG g) (hG : RGr w nv sv ov iv g) :
  Calls Tryz.prog 217 #[.agg #[.int .i64 g.roots, nv, sv, .int .i64 g.edges, ov, iv], .int .i64 link] w fun e w' => ∃ r, e = .returned r ∧ w'.ownsRow w.heap.size 3 1 r (holesG g link).length (ints (holesG g link)) ∧ Below w.heap.size w w' := by
 have HG := Lib.hid (show ∀ W, Below w.heap.size w W → RGr W nv sv ov iv g from fun W hb => hG.below hb)
 have HSM := Lib.hid hs
 obtain ⟨AN, cN, AS, cS, AO, cO, AI, cI, rfl, rfl, rfl, rfl⟩ := hG.form
 obtain ⟨w0, hw0, hb0, hsz0, bx0⟩ := laid1 w (.cells #[.int .i64 g.roots, .slice AN g.nodes.length cN, .slice AS g.sites.length cS, .int .i64 g.edges, .slice AO g.outer.length cO, .slice AI g.inner.length cI] 31)
 have HX := Lib.hid (keepB bx0)
 have HB0 := Lib.hid hb0
 have HW0 := Lib.hid hw0
 obtain ⟨x0, x1, x2, x3, x4, x5⟩ := row6 bx0
 rw [hw0] at x0 x1 x2 x3 x4 x5
 have hn := hs.sites
 clear hs hG hb0 bx0 hw0
 go_enter Tryz.func217, Tryz.ntmps217
 go_wp2_with fail
 rw [← HW0.out]
 clear x0 x1 x2 x3 x4 x5
 go_loopw [5, 6] (fun u i wr => ∃ k : Nat, k ≤ g.sites.length ∧ i = .int .i64 k ∧ wr.ownsRow w0.heap.size 3 1 u (holesTo g link k).length (ints (holesTo g link k)) ∧ Below w0.heap.size w0 wr)
  (fun _ i _ => g.sites.length - (intOf i).toNat)
 case atStart => exact ⟨0, Nat.zero_le _, rfl, by have h := made_rowG w0 3; rw [hsz0] at h ⊢; exact h, (Below.refl _ _).alloc (Nat.le_refl _) _⟩
 obtain ⟨k, hk, rfl, hown, hbel⟩ := hrel
 obtain ⟨AU, cU, rfl, hown⟩ := owns_form hown
 have hsz := hbel.size
 have hel := holes_len g link k
 have bxr := HX.out wr hbel
 have x2 := cell_of_row _ _ 2 _ _ _ bxr
 clear bxr
 by_cases hlt : k < g.sites.length
 ·obtain ⟨A', c', eS, hcS⟩ := (HG.out wr (HB0.out.trans (hbel.mono HB0.out.size))).s
  cases eS
  obtain ⟨b, o, rfl, hc⟩ := hcS.int hlt
  have k0 := hc k hlt
  have HYS := Lib.hid (fun h => holes_yes (g := g) (p := link) (k := k) h)
  have HNO := Lib.hid (fun h => holes_no (g := g) (p := link) (k := k) h)
  have HO := Lib.hid hown
  have HBE := Lib.hid hbel
  clear hown hbel hc hcS
  generalize g.sites.getD k 0 = y at *
  cases hy : (y == link)
  ·have HQ := Lib.hid (HNO.out hy)
   have hy2 : ¬ y = link := by simpa using hy
   go_wp2_with fail
   go_roundw
   case rel => exact ⟨k + 1, by omega, by go_num, by rw [HQ.out]; exact HO.out, HBE.out⟩
   case measure => simp [intOf]; omega
  have HQ := Lib.hid (HYS.out hy)
  have hy2 : y = link := by simpa using hy
  go_wp2_with (at_builtin; refine wpList_app el_intG rfl _ _ rfl w0.heap.size _ _ _ rfl HO.out [.int .i64 (k : Int)] rfl rfl rfl (one1 rfl) (by omega) hsz ?_; intro v2 w2 ho hk2 hm2)
  have HO2 := Lib.hid (show w2.ownsRow w0.heap.size 3 1 v2 (holesTo g link (k + 1)).length (ints (holesTo g link (k + 1))) from by rw [HQ.out, List.length_append, ints_app]; exact ho)
  have HB2 := Lib.hid (below_kept HBE.out hk2 (fun q hq => (HO.out.lt q hq).1) hsz)
  clear ho hk2 hm2
  go_wp2_with fail
  go_roundw
  case rel => exact ⟨k + 1, by omega, by go_num, HO2.out, HB2.out⟩
  case measure => simp [intOf]; omega
 obtain rfl : k = g.sites.length := by omega
 have HO := Lib.hid (owns_mono hown HB0.out.size)
 have HBE := Lib.hid (HB0.out.trans (hbel.mono HB0.out.size))
 clear hown hbel
 go_wp2_with fail
 go_ret
 exact ⟨_, rfl, HO.out, HBE.out⟩

theorem l3Permutes_any (g : Gr) (nv sv ov iv : Value) (w : World) (hs : SmallG g) (hG : RGr w nv sv ov iv g) :
  Calls Tryz.prog 160 #[.agg #[.int .i64 g.roots, nv, sv, .int .i64 g.edges, ov, iv]] w fun e w' => e = .returned (.bool (permuB g)) ∧ Below w.heap.size w w' := by
 have HG := Lib.hid (show ∀ W, Below w.heap.size w W → RGr W nv sv ov iv g from fun W hb => hG.below hb)
 have HSM := Lib.hid hs
 obtain ⟨AN, cN, AS, cS, AO, cO, AI, cI, rfl, rfl, rfl, rfl⟩ := hG.form
 obtain ⟨w0, hw0, hb0, hsz0, bx0⟩ := laid1 w (.cells #[.int .i64 g.roots, .slice AN g.nodes.length cN, .slice AS g.sites.length cS, .int .i64 g.edges, .slice AO g.outer.length cO, .slice AI g.inner.length cI] 31)
 have HX := Lib.hid (keepB bx0)
 have HB0 := Lib.hid hb0
 have HW0 := Lib.hid hw0
 obtain ⟨x0, x1, x2, x3, x4, x5⟩ := row6 bx0
 rw [hw0] at x0 x1 x2 x3 x4 x5
 have hr := hs.roots
 have hn := hs.sites
 have HHL := Lib.hid (show ∀ p, (holesG g p).length ≤ 1000 from fun p => Nat.le_trans (holes_len g p _) hs.sites)
 have HPT := Lib.hid (show permuB g = (allR g.roots.toNat (fun r => ((holesG g (-1 - (r : Int))).length : Int) == 1) && (placB g && ((g.sites.length : Int) == g.roots))) from rfl)
 clear hs hG hb0 bx0 hw0
 go_enter Tryz.func160, Tryz.ntmps160
 go_wp2_with fail
 rw [← HW0.out]
 clear x0 x1 x2 x3 x4 x5
 go_loopw [3] (fun i wr => ∃ k : Nat, k ≤ g.roots.toNat ∧ i = .int .i64 k ∧ (∀ j, j < k → (((holesG g (-1 - (j : Int))).length : Int) == 1) = true) ∧ Below w0.heap.size w0 wr)
  (fun i _ => g.roots.toNat - (intOf i).toNat)
 case atStart => exact ⟨0, Nat.zero_le _, rfl, fun j hj => by omega, Below.refl _ _⟩
 obtain ⟨k, hk, rfl, hall, hbel⟩ := hrel
 have HALL := Lib.hid hall
 have HBE := Lib.hid hbel
 have HZ := Lib.hid (HB0.out.trans (hbel.mono HB0.out.size))
 have bxr := HX.out wr hbel
 clear hall hbel
 obtain ⟨x0, x1, x2, x3, x4, x5⟩ := row6 bxr
 by_cases hlt : (k : Int) < g.roots
 ·have HC := Lib.hid (l2Holes_any g _ _ _ _ (-1 - (k : Int)) wr HSM.out (HG.out wr HZ.out))
  have hpl := HHL.out (-1 - (k : Int))
  have HF := Lib.hid (show (((holesG g (-1 - (k : Int))).length : Int) == 1) = false → permuB g = false from fun h => by rw [HPT.out, allR_false (show k < g.roots.toNat by omega) h]; rfl)
  have HN := Lib.hid (show (((holesG g (-1 - (k : Int))).length : Int) == 1) = true → ∀ j, j < k + 1 → (((holesG g (-1 - (j : Int))).length : Int) == 1) = true from fun h j hj => by
   rcases Nat.lt_succ_iff_lt_or_eq.1 hj with h' | h'
   ·exact HALL.out j h'
   rw [h']; exact h)
  clear bxr
  go_wp2_with fail
  (with_reducible refine HC.out.mono ?_)
  rintro e w1 ⟨r, rfl, ho, hb1⟩
  obtain ⟨A1, c1, rfl, _⟩ := owns_form ho
  have HB1 := Lib.hid (HBE.out.trans (hb1.mono HBE.out.size))
  clear ho hb1 x0 x1 x2 x3 x4 x5
  generalize (holesG g (-1 - (k : Int))).length = m at *
  cases hm : ((m : Int) == 1)
  ·have HFF := Lib.hid (HF.out hm)
   have hm2 : ((m : Int) != 1) = true := by rw [bne, hm]; rfl
   have HZ1 := Lib.hid (HB0.out.trans (HB1.out.mono HB0.out.size))
   go_wp2_with fail
   go_ret
   exact ⟨by rw [HFF.out]; rfl, HZ1.out⟩
  have HNN := Lib.hid (HN.out hm)
  have hm2 : ((m : Int) != 1) = false := by rw [bne, hm]; rfl
  go_wp2_with fail
  go_roundw
  case rel => exact ⟨k + 1, by omega, by go_num, HNN.out, HB1.out⟩
  case measure => simp [intOf]; omega
 have HE := Lib.hid (show permuB g = (placB g && ((g.sites.length : Int) == g.roots)) from by rw [HPT.out, allR_true (fun j hj => HALL.out j (by omega)), Bool.true_and])
 have HC := Lib.hid (l3Placing_any g _ _ _ _ wr HSM.out (HG.out wr HZ.out))
 clear bxr
 cases hp : placB g
 ·rw [hp] at HC HE
  clear hp
  go_wp2_with fail
  (with_reducible refine HC.out.mono ?_)
  rintro e w1 ⟨rfl, hb1⟩
  have HZ1 := Lib.hid (HZ.out.trans (hb1.mono HZ.out.size))
  clear hb1 x0 x1 x2 x3 x4 x5
  go_wp2_with fail
  go_ret
  exact ⟨by rw [HE.out]; rfl, HZ1.out⟩
 rw [hp] at HC HE
 clear hp
 go_wp2_with fail
 (with_reducible refine HC.out.mono ?_)
 rintro e w1 ⟨rfl, hb1⟩
 have HZ1 := Lib.hid (HZ.out.trans (hb1.mono HZ.out.size))
 have bxr := HX.out w1 (HBE.out.trans (hb1.mono HBE.out.size))
 clear hb1 x0 x1 x2 x3 x4 x5
 obtain ⟨x0, x1, x2, x3, x4, x5⟩ := row6 bxr
 clear bxr
 go_wp2_with fail
 go_ret
 exact ⟨by rw [HE.out]; rfl, HZ1.out⟩

theorem hasOnePoint_any (g : Gr) (nv sv ov iv : Value) (w : World) (hs : SmallG g) (hG : RGr w nv sv ov iv g) :
  Calls Tryz.prog 163 #[.agg #[.int .i64 g.roots, nv, sv, .int .i64 g.edges, ov, iv]] w fun e w' => e = .returned (.bool (oneB g)) ∧ Below w.heap.size w w' := by
 have HG := Lib.hid (show ∀ W, Below w.heap.size w W → RGr W nv sv ov iv g from fun W hb => hG.below hb)
 have HSM := Lib.hid hs
 obtain ⟨AN, cN, AS, cS, AO, cO, AI, cI, rfl, rfl, rfl, rfl⟩ := hG.form
 obtain ⟨w0, hw0, hb0, hsz0, bx0⟩ := laid1 w (.cells #[.int .i64 g.roots, .slice AN g.nodes.length cN, .slice AS g.sites.length cS, .int .i64 g.edges, .slice AO g.outer.length cO, .slice AI g.inner.length cI] 31)
 have HX := Lib.hid (keepB bx0)
 have HB0 := Lib.hid hb0
 have HW0 := Lib.hid hw0
 obtain ⟨x0, x1, x2, x3, x4, x5⟩ := row6 bx0
 rw [hw0] at x0 x1 x2 x3 x4 x5
 have hed := hs.edges
 have hn := hs.outer
 have HLN := Lib.hid (show ∀ l, (ptsG g l).length ≤ 1000000 ∧ (endsG g l).length ≤ 1000 from fun l => ⟨Nat.le_trans (pts_len hs l _ (Nat.le_refl _)) (Nat.le_trans (Nat.mul_le_mul_right 1000 hs.nodes) (by decide)), Nat.le_trans (ends_len g l _) hs.inner⟩)
 have HPT := Lib.hid (show oneB g = allR g.outer.length (oneAt g) from rfl)
 clear hs hG hb0 bx0 hw0
 go_enter Tryz.func163, Tryz.ntmps163
 go_wp2_with fail
 rw [← HW0.out]
 clear x0 x1 x2 x3 x4 x5
 go_loopw [9] (fun i wr => ∃ k : Nat, k ≤ g.outer.length ∧ i = .int .i64 k ∧ (∀ j, j < k → oneAt g j = true) ∧ Below w0.heap.size w0 wr)
  (fun i _ => g.outer.length - (intOf i).toNat)
 case atStart => exact ⟨0, Nat.zero_le _, rfl, fun j hj => by omega, Below.refl _ _⟩
 obtain ⟨k, hk, rfl, hall, hbel⟩ := hrel
 have HALL := Lib.hid hall
 have HBE := Lib.hid hbel
 have HZ := Lib.hid (HB0.out.trans (hbel.mono HB0.out.size))
 have bxr := HX.out wr hbel
 clear hall hbel
 obtain ⟨x0, x1, x2, x3, x4, x5⟩ := row6 bxr
 by_cases hlt : k < g.outer.length
 ·have HC := Lib.hid (pointsOf_any g _ _ _ _ (g.edges + (k : Int)) wr HSM.out (HG.out wr HZ.out))
  obtain ⟨hpl, hel⟩ := HLN.out (g.edges + (k : Int))
  have HAT := Lib.hid (show oneAt g k = (((ptsG g (g.edges + (k : Int))).length : Int) + ((endsG g (g.edges + (k : Int))).length : Int) == 1) from rfl)
  have HF := Lib.hid (show oneAt g k = false → oneB g = false from fun h => by rw [HPT.out, allR_false hlt h])
  have HN := Lib.hid (show oneAt g k = true → ∀ j, j < k + 1 → oneAt g j = true from fun h j hj => by
   rcases Nat.lt_succ_iff_lt_or_eq.1 hj with h' | h'
   ·exact HALL.out j h'
   rw [h']; exact h)
  clear bxr
  go_wp2_with fail
  (with_reducible refine HC.out.mono ?_)
  rintro e w1 ⟨r, q, rfl, ho, ho2, hb1⟩
  obtain ⟨A1, c1, rfl, _⟩ := owns_form ho
  obtain ⟨A2, c2, rfl, _⟩ := owns_form ho2
  have HB1 := Lib.hid (HBE.out.trans (hb1.mono HBE.out.size))
  clear ho ho2 hb1 x0 x1 x2 x3 x4 x5
  generalize (ptsG g (g.edges + (k : Int))).length = m at *
  generalize (endsG g (g.edges + (k : Int))).length = n at *
  cases hm : ((m : Int) + (n : Int) == 1)
  ·have HFF := Lib.hid (HF.out (by rw [HAT.out, hm]))
   have hm2 : ((m : Int) + (n : Int) != 1) = true := by rw [bne, hm]; rfl
   have HZ1 := Lib.hid (HB0.out.trans (HB1.out.mono HB0.out.size))
   go_wp2_with fail
   go_ret
   exact ⟨by rw [HFF.out]; rfl, HZ1.out⟩
  have HNN := Lib.hid (HN.out (by rw [HAT.out, hm]))
  have hm2 : ((m : Int) + (n : Int) != 1) = false := by rw [bne, hm]; rfl
  go_wp2_with fail
  go_roundw
  case rel => exact ⟨k + 1, by omega, by go_num, HNN.out, HB1.out⟩
  case measure => simp [intOf]; omega
 obtain rfl : k = g.outer.length := by omega
 have HE := Lib.hid (show oneB g = true from by rw [HPT.out, allR_true HALL.out])
 clear bxr
 go_wp2_with fail
 go_ret
 exact ⟨by rw [HE.out]; rfl, HZ.out⟩

theorem l3Single_any (g : Gr) (nv sv ov iv : Value) (w : World) (hs : SmallG g) (hG : RGr w nv sv ov iv g) :
  Calls Tryz.prog 176 #[.agg #[.int .i64 g.roots, nv, sv, .int .i64 g.edges, ov, iv]] w fun e w' => e = .returned (.bool (oneB g && (g.edges == 0))) ∧ Below w.heap.size w w' := by
 have HG := Lib.hid (show ∀ W, Below w.heap.size w W → RGr W nv sv ov iv g from fun W hb => hG.below hb)
 have HSM := Lib.hid hs
 obtain ⟨AN, cN, AS, cS, AO, cO, AI, cI, rfl, rfl, rfl, rfl⟩ := hG.form
 obtain ⟨w0, hw0, hb0, hsz0, bx0⟩ := laid1 w (.cells #[.int .i64 g.roots, .slice AN g.nodes.length cN, .slice AS g.sites.length cS, .int .i64 g.edges, .slice AO g.outer.length cO, .slice AI g.inner.length cI] 31)
 have HX := Lib.hid (keepB bx0)
 have HB0 := Lib.hid hb0
 have HW0 := Lib.hid hw0
 obtain ⟨x0, x1, x2, x3, x4, x5⟩ := row6 bx0
 rw [hw0] at x0 x1 x2 x3 x4 x5
 have hed := hs.edges
 have hn := hs.outer
 have HLN := Lib.hid (show ∀ l, (ptsG g l).length ≤ 1000000 ∧ (endsG g l).length ≤ 1000 from fun l => ⟨Nat.le_trans (pts_len hs l _ (Nat.le_refl _)) (Nat.le_trans (Nat.mul_le_mul_right 1000 hs.nodes) (by decide)), Nat.le_trans (ends_len g l _) hs.inner⟩)
 have HPT := Lib.hid (show oneB g = allR g.outer.length (oneAt g) from rfl)
 clear hs hG hb0 bx0 hw0
 go_enter Tryz.func176, Tryz.ntmps176
 go_wp2_with fail
 rw [← HW0.out]
 clear x0 x1 x2 x3 x4 x5
 go_loopw [3] (fun i wr => ∃ k : Nat, k ≤ g.outer.length ∧ i = .int .i64 (g.edges + (k : Int)) ∧ (∀ j, j < k → oneAt g j = true) ∧ Below w0.heap.size w0 wr)
  (fun i _ => (g.edges + (g.outer.length : Int) - intOf i).toNat)
 case atStart => exact ⟨0, Nat.zero_le _, by simp, fun j hj => by omega, Below.refl _ _⟩
 obtain ⟨k, hk, rfl, hall, hbel⟩ := hrel
 have HALL := Lib.hid hall
 have HBE := Lib.hid hbel
 have HZ := Lib.hid (HB0.out.trans (hbel.mono HB0.out.size))
 have bxr := HX.out wr hbel
 clear hall hbel
 obtain ⟨x0, x1, x2, x3, x4, x5⟩ := row6 bxr
 by_cases hlt : k < g.outer.length
 ·obtain ⟨hpl, hel⟩ := HLN.out (g.edges + (k : Int))
  have HAT := Lib.hid (show oneAt g k = (((ptsG g (g.edges + (k : Int))).length : Int) + ((endsG g (g.edges + (k : Int))).length : Int) == 1) from rfl)
  have HF := Lib.hid (show oneAt g k = false → oneB g = false from fun h => by rw [HPT.out, allR_false hlt h])
  have HN := Lib.hid (show oneAt g k = true → ∀ j, j < k + 1 → oneAt g j = true from fun h j hj => by
   rcases Nat.lt_succ_iff_lt_or_eq.1 hj with h' | h'
   ·exact HALL.out j h'
   rw [h']; exact h)
  clear bxr
  go_wp2_with fail
  clear x0 x1 x2 x3 x4 x5
  refine wp_region_vals (by kernel_rfl) [some 16, some 17, some 18, some 19, some 20, some 21, some 22, some 23, some 24, some 25] (fun q v W => match q with | 0 => v = .agg #[.int .i64 g.roots, .slice AN g.nodes.length cN, .slice AS g.sites.length cS, .int .i64 g.edges, .slice AO g.outer.length cO, .slice AI g.inner.length cI] | 1 => v = .int .i64 (g.edges + (k : Int)) | 2 => ∃ A1 c1, v = .slice A1 (ptsG g (g.edges + (k : Int))).length c1 ∧ True | 3 => v = .int .i64 ((ptsG g (g.edges + (k : Int))).length : Int) | 4 => v = .agg #[.int .i64 g.roots, .slice AN g.nodes.length cN, .slice AS g.sites.length cS, .int .i64 g.edges, .slice AO g.outer.length cO, .slice AI g.inner.length cI] | 5 => v = .int .i64 (g.edges + (k : Int)) | 6 => ∃ A1 c1, v = .slice A1 (endsG g (g.edges + (k : Int))).length c1 ∧ True | 7 => v = .int .i64 ((endsG g (g.edges + (k : Int))).length : Int) | 8 => v = .int .i64 (((ptsG g (g.edges + (k : Int))).length : Int) + ((endsG g (g.edges + (k : Int))).length : Int)) | 9 => v = .bool (!oneAt g k) | _ => True) (by kernel_rfl) (by kernel_rfl) ?m1o ?s1t ?f1i
  case m1o =>
   intro q v W W' hb h
   match q, h with
   | 0, h | 1, h | 2, h | 3, h | 4, h | 5, h | 6, h | 7, h | 8, h | 9, h => exact h
   | q + 10, _ => trivial
  case s1t =>
   intro L act W q oo hJ ho hd K3 hK3
   match q, ho with
   | 0, ho | 4, ho =>
    cases ho
    have hbW := hJ.bel
    have a1 : act.tmps[1]? = some _ := hJ.out 1 (by decide)
    clear hJ hd
    have bxW := HX.out W (HBE.out.trans (hbW.mono HBE.out.size))
    obtain ⟨x0, x1, x2, x3, x4, x5⟩ := row6 bxW
    clear bxW hbW
    go_simp
    exact hK3 _ _ (Below.refl _ _) rfl
   | 1, ho | 5, ho =>
    cases ho
    have hbW := hJ.bel
    have a3 : act.tmps[3]? = some _ := hJ.out 3 (by decide)
    clear hJ hd
    go_simp
    exact hK3 _ _ (Below.refl _ _) rfl
   | 2, ho =>
    cases ho
    simp [Region.binds] at hd
    have hbW := hJ.bel
    have v0 := hJ.val (by simp [hd] : L 0 = true) rfl fun _ h => h
    have v1 := hJ.val (by simp [hd] : L 1 = true) rfl fun _ h => h
    clear hJ hd
    have HBW := Lib.hid hbW
    clear hbW
    go_simp
    go_at_call 233
    refine (l2Ports_any g _ _ _ _ (g.edges + (k : Int)) W HSM.out (HG.out W (HZ.out.trans (HBW.out.mono HZ.out.size)))).mono ?_
    rintro e W' ⟨r, rfl, ho, hb⟩
    go_simp
    exact hK3 _ _ hb (by obtain ⟨A1, c1, rfl, _⟩ := owns_form ho; exact ⟨A1, c1, rfl, trivial⟩)
   | 3, ho =>
    cases ho
    simp [Region.binds] at hd
    have hbW := hJ.bel
    have l2 : L 2 = true := by simp [hd]
    obtain ⟨u2, v2, A1, c1, rfl, hr2⟩ := hJ.has 2 18 l2 rfl
    clear hJ hd
    go_simp
    exact hK3 _ _ (Below.refl _ _) rfl
   | 6, ho =>
    cases ho
    simp [Region.binds] at hd
    have hbW := hJ.bel
    have v4 := hJ.val (by simp [hd] : L 4 = true) rfl fun _ h => h
    have v5 := hJ.val (by simp [hd] : L 5 = true) rfl fun _ h => h
    clear hJ hd
    have HBW := Lib.hid hbW
    clear hbW
    go_simp
    go_at_call 218
    refine (l2Ends_any g _ _ _ _ (g.edges + (k : Int)) W HSM.out (HG.out W (HZ.out.trans (HBW.out.mono HZ.out.size)))).mono ?_
    rintro e W' ⟨r, rfl, ho, hb⟩
    go_simp
    exact hK3 _ _ hb (by obtain ⟨A1, c1, rfl, _⟩ := owns_form ho; exact ⟨A1, c1, rfl, trivial⟩)
   | 7, ho =>
    cases ho
    simp [Region.binds] at hd
    have hbW := hJ.bel
    have l6 : L 6 = true := by simp [hd]
    obtain ⟨u6, v6, A1, c1, rfl, hr6⟩ := hJ.has 6 22 l6 rfl
    clear hJ hd
    go_simp
    exact hK3 _ _ (Below.refl _ _) rfl
   | 8, ho =>
    cases ho
    simp [Region.binds] at hd
    have hbW := hJ.bel
    have v3 := hJ.val (by simp [hd] : L 3 = true) rfl fun _ h => h
    have v7 := hJ.val (by simp [hd] : L 7 = true) rfl fun _ h => h
    clear hJ hd
    have hwr := IntWalk.i64_in (((ptsG g (g.edges + (k : Int))).length : Int) + ((endsG g (g.edges + (k : Int))).length : Int)) (by omega)
    go_simp
    exact hK3 _ _ (Below.refl _ _) rfl
   | 9, ho =>
    cases ho
    simp [Region.binds] at hd
    have hbW := hJ.bel
    have v8 := hJ.val (by simp [hd] : L 8 = true) rfl fun _ h => h
    clear hJ hd
    go_simp
    exact hK3 _ _ (Below.refl _ _) (by rw [HAT.out]; rfl)
   | q + 10, ho => simp at ho
  intro V W hbW hV
  have v0 : V 0 = _ := hV 0 16 rfl
  have v1 : V 1 = _ := hV 1 17 rfl
  obtain ⟨A12, c12, v2, hr2⟩ : ∃ A1 c1, V 2 = .slice A1 (ptsG g (g.edges + (k : Int))).length c1 ∧ True := hV 2 18 rfl
  have v3 : V 3 = _ := hV 3 19 rfl
  have v4 : V 4 = _ := hV 4 20 rfl
  have v5 : V 5 = _ := hV 5 21 rfl
  obtain ⟨A16, c16, v6, hr6⟩ : ∃ A1 c1, V 6 = .slice A1 (endsG g (g.edges + (k : Int))).length c1 ∧ True := hV 6 22 rfl
  have v7 : V 7 = _ := hV 7 23 rfl
  have v8 : V 8 = _ := hV 8 24 rfl
  have v9 : V 9 = _ := hV 9 25 rfl
  clear hV
  simp only [layV, List.setIfInBounds_toArray, List.set_cons_zero, List.set_cons_succ, v0, v1, v2, v3, v4, v5, v6, v7, v8, v9]
  clear v0 v1 v2 v3 v4 v5 v6 v7 v8 v9
  have HB1 := Lib.hid (HBE.out.trans (hbW.mono HBE.out.size))
  clear hbW
  cases hm : oneAt g k
  ·have HFF := Lib.hid (HF.out hm)
   have HZ1 := Lib.hid (HB0.out.trans (HB1.out.mono HB0.out.size))
   go_wp2_with fail
   go_ret
   exact ⟨by rw [HFF.out]; rfl, HZ1.out⟩
  have HNN := Lib.hid (HN.out hm)
  go_wp2_with fail
  go_roundw
  case rel => exact ⟨k + 1, by omega, by go_num, HNN.out, HB1.out⟩
  case measure => simp [intOf]; omega
 obtain rfl : k = g.outer.length := by omega
 have HE := Lib.hid (show oneB g = true from by rw [HPT.out, allR_true HALL.out])
 clear bxr
 go_wp2_with fail
 go_ret
 exact ⟨by rw [HE.out]; rfl, HZ.out⟩

end Go.Proofs.YtijkdpdmclkmlaaGreatDoor
