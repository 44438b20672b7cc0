/- The law of formulas over drawn systems, walked: each formula is read back from its text, and bisimilar states satisfy the same formulas. -/
import Derived.Test.YtdgnhfhaaghoaaaGreatDoorProg
import Derived.Test.YtdgnhfhaaghoaaaGreatDoorJ38
import Derived.Test.YtdgnhfhaaghoaaaGreatDoorJ44
import Derived.Test.YtdgnhfhaaghoaaaGreatDoorJ45
import Derived.Test.YtdgnhfhaaghoaaaGreatDoorJ41
import Derived.Test.YtdgnhfhaaghoaaaGreatDoorJ2
import Derived.Test.YtdgnhfhaaghoaaaGreatDoorJ0
import Derived.Test.YtdgnhfhaaghoaaaGreatDoorJ26
import Derived.Test.YtdgnhfhaaghoaaaGreatDoorJ48
import Derived.Test.YtdgnhfhaaghoaaaGreatDoorJ4
import Derived.BigQuiet
set_option linter.unusedSimpArgs false
set_option linter.unusedVariables false
namespace Go.Proofs.YtdgnhfhaaghoaaaGreatDoor
open Go.RowKit

/-- While the negation is asked: it is built (b1), appended (b3), asked (b4). -/
structure NF (w0 : World) (l : Lab) (h : List Int) (bb : Nat) (V R : Value) (b1 b3 b4 : Bool) (W : World) : Prop where
  o3 : b3 = true → b1 = true
  o4 : b4 = true → b3 = true
  k : Below w0.heap.size w0 W
  h1 : b1 = true → b3 = false → W.ownsRow w0.heap.size 3 1 (.slice (some ⟨bb, 0, none⟩) 1 1) 1 [.int .i64 2]
  h3 : b3 = true → W.ownsRow w0.heap.size 3 1 V (h.length + 1) (ints (2 :: h))
  h4 : b4 = true → W.ownsRow w0.heap.size 3 1 R (satS l (2 :: h)).length (ints (satS l (2 :: h)))
section
variable {w0 W W' : World} {l : Lab} {h : List Int} {bb bb' : Nat} {V R V' R' : Value} {b1 b3 b4 : Bool}
theorem NF.start : NF w0 l h bb V R false false false w0.drew :=
  { o3 := fun h => (nomatch h), o4 := fun h => (nomatch h), k := (Below.refl _ _).drew, h1 := fun h => (nomatch h), h3 := fun h => (nomatch h), h4 := fun h => (nomatch h) }
theorem NF.q (x : NF w0 l h bb V R false b3 b4 W) : b3 = false ∧ b4 = false := by
  have e : b3 = false := by cases b3; rfl; exact absurd (x.o3 rfl) (by simp)
  subst e
  exact ⟨rfl, by cases b4; rfl; exact absurd (x.o4 rfl) (by simp)⟩
theorem NF.q3 (x : NF w0 l h bb V R b1 false b4 W) : b4 = false := by cases b4; rfl; exact absurd (x.o4 rfl) (by simp)
theorem NF.build (x : NF w0 l h bb V R false b3 b4 W) : NF w0 l h W.heap.size V R true b3 b4 (W.alloc (.cells #[.int .i64 2] 3)) := by
  obtain ⟨rfl, rfl⟩ := x.q
  exact { o3 := fun h => (nomatch h), o4 := fun h => (nomatch h), k := x.k.alloc x.k.size _, h1 := fun _ _ => owns_mono (ownsRow_lit (n := 1) (xs := [.int .i64 2]) (heap_alloc_new W (.cells #[.int .i64 2] 3)) rfl (by unfold maxLen; omega)) x.k.size, h3 := fun h => (nomatch h), h4 := fun h => (nomatch h) }
theorem NF.app (x : NF w0 l h bb V R true false b4 W) (ho : W'.ownsRow w0.heap.size 3 1 V' (1 + h.length) ([.int .i64 2] ++ ints h)) (hk : Kept (fun q => (Value.slice (some ⟨bb, 0, none⟩) 1 1).ownBlock = some q) W W') : NF w0 l h bb V' R true true b4 W' := by
  obtain rfl := x.q3
  exact { o3 := fun _ => rfl, o4 := fun h => (nomatch h), k := x.k.trans (hk.below (B := w0.heap.size) (fun q hq => ((x.h1 rfl rfl).lt q hq).1) x.k.size), h1 := fun _ h => (nomatch h), h3 := fun _ => by rw [Nat.add_comm h.length 1]; exact ho, h4 := fun h => (nomatch h) }
theorem NF.ask (x : NF w0 l h bb V R b1 true false W) (hb : Below W.heap.size W W') (ho : W'.ownsRow W.heap.size 3 1 R' (satS l (2 :: h)).length (ints (satS l (2 :: h)))) : NF w0 l h bb V R' b1 true true W' :=
  { o3 := x.o3, o4 := fun _ => rfl, k := x.k.trans (hb.mono x.k.size), h1 := fun _ h => (nomatch h), h3 := fun _ => owns_below (x.h3 rfl) hb (Nat.le_refl _), h4 := fun _ => owns_mono ho x.k.size }
end

set_option maxRecDepth 100000 in
set_option maxHeartbeats 32000000 in
theorem lawFnFormulas (A : Option Addr) (bs : List Int) (c : Nat) (w : World) (hA : Cells w A (u8s bs)) (hrng : ∀ x ∈ bs, 0 ≤ x ∧ x < 256) (hlen : bs.length ≤ maxLen) (hcap : bs.length ≤ c) :
    Calls Tryz.prog 5 #[.slice A bs.length c] w fun e w' => e = .returned (.bool true) ∧ Below w.heap.size w w' := by
  have HB := Lib.hid (vBig_any A bs.length c w hlen)
  by_cases hbig : 65536 < bs.length
  · rw [show decide (65536 < bs.length) = true from by simp [hbig]] at HB
    clear hbig hlen hA hrng
    go_enter Tryz.func5, Tryz.ntmps5
    go_wp2_with fail
    (with_reducible refine HB.out.mono ?_)
    rintro e w1 ⟨rfl, rfl⟩
    go_wp2_with fail
    go_ret
    exact ⟨rfl, Below.refl _ _⟩
  rw [show decide (65536 < bs.length) = false from by simp [hbig]] at HB
  have hb64 : bs.length ≤ 65536 := by omega
  clear hbig hlen
  have HA := Lib.hid hA
  have HRNG := Lib.hid hrng
  clear hA hrng
  have HT := Lib.hid (Below.refl w.heap.size w)
  have hs : w.heap.size ≤ w.heap.size := Nat.le_refl _
  go_enter Tryz.func5, Tryz.ntmps5
  go_wp2_with fail
  (with_reducible refine HB.out.mono ?_)
  rintro e w' ⟨rfl, rfl⟩
  clear HB
  go_wp2_with fail
  (with_reducible refine (drawFormulaText_any A bs c w HA.out HRNG.out (by omega)).mono ?_)
  rintro e w1 ⟨r, f, rfl, hr, hfn, hb⟩
  obtain ⟨AF, cF, rfl, hr⟩ := owns_form hr
  have hF := Cells.of_owns hr
  clear hr
  replace HA := Lib.hid (HA.out.below hb)
  replace HT := Lib.hid (HT.out.trans (hb.mono hs))
  clear hs
  have hs := HT.out.size
  clear hb
  have HhF := Lib.hid hF
  clear hF
  have hTS := fT_size f
  have HBK := Lib.hid (fun h => read_back (f := f) h)
  go_wp2_with fail
  (with_reducible refine (implFormulaText_any AF cF f _ (by omega) HhF.out).mono ?_)
  rintro e w'' ⟨rfl, rfl⟩
  go_wp2_with fail
  (with_reducible refine (specFormulaText_any AF cF f _ (by omega) HhF.out).mono ?_)
  rintro e w'' ⟨rfl, rfl⟩
  go_wp2_with fail
  (with_reducible refine (implIsFormula_any AF cF f _ (by omega) HhF.out).mono ?_)
  rintro e w'' ⟨rfl, rfl⟩
  have e1 : (isF f != isF f) = false := by rw [bne_self_eq_false]
  have e2 : ((fT f).toList != (fT f).toList) = false := by rw [bne_self_eq_false]
  have e3 : ((fT f).toList == (fT f).toList) = true := by simp
  go_wp2_with fail
  (with_reducible refine (specIsFormula_any AF cF f _ (by omega) HhF.out).mono ?_)
  rintro e w'' ⟨rfl, rfl⟩
  go_wp2_with fail
  (with_reducible refine (implParse_any (fT f) _ (by omega)).mono ?_)
  rintro e w2 ⟨r, rfl, hr, hb⟩
  obtain ⟨AB, cB, rfl, hr⟩ := owns_form hr
  have hB := Cells.of_owns hr
  clear hr
  replace HA := Lib.hid (HA.out.below hb)
  replace HhF := Lib.hid (HhF.out.below hb)
  replace HT := Lib.hid (HT.out.trans (hb.mono hs))
  clear hs
  have hs := HT.out.size
  clear hb
  have HhB := Lib.hid hB
  clear hB
  clear e1 e2 e3
  cases hF : isF f
  · skip
    clear HhF
    clear HhB
    clear hTS HBK
    go_wp2_with fail
    (with_reducible refine (show Calls Tryz.prog 31 #[.slice A bs.length c, .int .i64 1] _ _ from vCut_any A bs c 1 _ HA.out HRNG.out hcap (by omega) (by omega)).mono ?_)
    rintro e w3 ⟨A3, c3, bs3, rfl, hA3, hrng3, hlen3, hb⟩
    have HA3 := Lib.hid hA3
    have HR3 := Lib.hid hrng3
    clear hA3 hrng3
    replace HA := Lib.hid (HA.out.below hb)
    replace HT := Lib.hid (HT.out.trans (hb.mono hs))
    clear hs
    have hs := HT.out.size
    clear hb
    go_wp2_with fail
    (with_reducible refine (drawParseFormula_any A3 bs3 c3 _ HA3.out HR3.out (by omega)).mono ?_)
    rintro e w4 ⟨s, rfl, hsn, hb⟩
    clear HA3 HR3
    replace HA := Lib.hid (HA.out.below hb)
    replace HT := Lib.hid (HT.out.trans (hb.mono hs))
    clear hs
    have hs := HT.out.size
    clear hb
    obtain ⟨hp, ho⟩ := pf_same s
    have hT := Lib.hid (fun W => specParse_any s W (by omega))
    have hI := Lib.hid (fun W => implParse_any s W (by omega))
    rw [hp, ho] at hT
    have hpl := pf_len s
    clear hp ho
    generalize pfI s = g at *
    generalize okP (gotI s) s = ok at *
    go_wp2_with fail
    (with_reducible refine (hI.out _).mono ?_)
    rintro e w5 ⟨r, rfl, hr, hb⟩
    obtain ⟨AG, cG, rfl, hr⟩ := owns_form hr
    have hG := Cells.of_owns hr
    clear hr
    replace HA := Lib.hid (HA.out.below hb)
    replace HT := Lib.hid (HT.out.trans (hb.mono hs))
    clear hs
    have hs := HT.out.size
    clear hb
    have HhG := Lib.hid hG
    clear hG
    go_wp2_with fail
    (with_reducible refine (hT.out _).mono ?_)
    rintro e w6 ⟨r, rfl, hr, hb⟩
    obtain ⟨AG2, cG2, rfl, hr⟩ := owns_form hr
    have hG2 := Cells.of_owns hr
    clear hr
    replace HA := Lib.hid (HA.out.below hb)
    replace HhG := Lib.hid (HhG.out.below hb)
    replace HT := Lib.hid (HT.out.trans (hb.mono hs))
    clear hs
    have hs := HT.out.size
    clear hb
    have HhG2 := Lib.hid hG2
    clear hG2
    clear hT hI
    go_wp2_with fail
    (with_reducible refine (show Calls Tryz.prog 31 #[.slice A bs.length c, .int .i64 2] _ _ from vCut_any A bs c 2 _ HA.out HRNG.out hcap (by omega) (by omega)).mono ?_)
    rintro e w7 ⟨A4, c4, bs4, rfl, hA4, hrng4, hlen4, hb⟩
    have HA4 := Lib.hid hA4
    have HR4 := Lib.hid hrng4
    clear hA4 hrng4
    replace HA := Lib.hid (HA.out.below hb)
    replace HhG := Lib.hid (HhG.out.below hb)
    replace HhG2 := Lib.hid (HhG2.out.below hb)
    replace HT := Lib.hid (HT.out.trans (hb.mono hs))
    clear hs
    have hs := HT.out.size
    clear hb
    go_wp2_with fail
    (with_reducible refine (drawSatisfying_any A4 bs4 c4 _ HA4.out HR4.out (by omega)).mono ?_)
    rintro e w8 ⟨u, v, r, h, rfl, hD, hr, hhn, hb⟩
    clear HA4 HR4
    obtain ⟨AH, cH, rfl, hr⟩ := owns_form hr
    have hH := Cells.of_owns hr
    obtain ⟨l, BU, dU, BT, dT, hsl, hzl, rfl, rfl, hR⟩ := hD.open_
    clear hD hr
    replace HA := Lib.hid (HA.out.below hb)
    replace HhG := Lib.hid (HhG.out.below hb)
    replace HhG2 := Lib.hid (HhG2.out.below hb)
    replace HT := Lib.hid (HT.out.trans (hb.mono hs))
    clear hs
    have hs := HT.out.size
    clear hb
    have HhH := Lib.hid hH
    clear hH
    obtain ⟨w9, hw⟩ : ∃ W, W = w8.alloc (.cells #[.slice BU l.shows.length dU, .slice BT l.steps.length dT] 27) := ⟨_, rfl⟩
    have hb := below_new hw
    have h0 := At.new hw hR
    have HL := Lib.hid h0
    clear h0
    have hzw9 : w9.heap.size = w8.heap.size + 1 := by rw [hw]; simp
    replace HA := Lib.hid (HA.out.below hb)
    replace HhG := Lib.hid (HhG.out.below hb)
    replace HhG2 := Lib.hid (HhG2.out.below hb)
    replace HhH := Lib.hid (HhH.out.below hb)
    replace HT := Lib.hid (HT.out.trans (hb.mono hs))
    clear hs
    have hs := HT.out.size
    have HWw9 := Lib.hid hw
    clear hb hw
    clear hR
    clear HA
    go_wp2_with fail
    rw [← HWw9.out]
    (with_reducible refine (implSatisfying_any _ l AH cH h _ hsl HL.out.r (by omega) HhH.out).mono ?_)
    rintro e w10 ⟨r, rfl, hr, hb⟩
    obtain ⟨AS, cS, rfl, hr⟩ := owns_form hr
    have hS := Cells.of_owns hr
    clear hr
    replace HhG := Lib.hid (HhG.out.below hb)
    replace HhG2 := Lib.hid (HhG2.out.below hb)
    replace HhH := Lib.hid (HhH.out.below hb)
    replace HL := Lib.hid (HL.out.below hb)
    replace HT := Lib.hid (HT.out.trans (hb.mono hs))
    clear hs
    have hs := HT.out.size
    clear hb
    have HhS := Lib.hid hS
    clear hS
    obtain ⟨c0_0, c0_1⟩ := HL.out.cells
    go_wp2_with fail
    clear c0_0 c0_1
    (with_reducible refine (specSatisfying_any _ l AH cH h _ hsl HL.out.r (by omega) HhH.out).mono ?_)
    rintro e w11 ⟨r, rfl, hr, hb⟩
    obtain ⟨AS2, cS2, rfl, hr⟩ := owns_form hr
    have hS2 := Cells.of_owns hr
    clear hr
    replace HhG := Lib.hid (HhG.out.below hb)
    replace HhG2 := Lib.hid (HhG2.out.below hb)
    replace HhH := Lib.hid (HhH.out.below hb)
    replace HL := Lib.hid (HL.out.below hb)
    replace HhS := Lib.hid (HhS.out.below hb)
    replace HT := Lib.hid (HT.out.trans (hb.mono hs))
    clear hs
    have hs := HT.out.size
    clear hb
    have HhS2 := Lib.hid hS2
    clear hS2
    have hSn := satS_len l h
    have hz60 := hzl.a
    have e1 : (ok != ok) = false := by rw [bne_self_eq_false]
    have e2 : (okS l h != okS l h) = false := by rw [bne_self_eq_false]
    have hG1 := sameI_refl g
    have hS1 := sameI_refl (satS l h)
    go_wp2_with fail
    (with_reducible refine (vInts_any AG AG2 cG cG2 g g _ (by omega) (by omega) HhG.out HhG2.out).mono ?_)
    rintro e w12 ⟨rfl, hb⟩
    replace HhG := Lib.hid (HhG.out.below hb)
    replace HhG2 := Lib.hid (HhG2.out.below hb)
    replace HhH := Lib.hid (HhH.out.below hb)
    replace HL := Lib.hid (HL.out.below hb)
    replace HhS := Lib.hid (HhS.out.below hb)
    replace HhS2 := Lib.hid (HhS2.out.below hb)
    replace HT := Lib.hid (HT.out.trans (hb.mono hs))
    clear hs
    have hs := HT.out.size
    clear hb
    rw [hG1]
    clear HhG
    clear HhG2
    go_wp2_with fail
    (with_reducible refine (vInts_any AS AS2 cS cS2 (satS l h) (satS l h) _ (by omega) (by omega) HhS.out HhS2.out).mono ?_)
    rintro e w13 ⟨rfl, hb⟩
    replace HhH := Lib.hid (HhH.out.below hb)
    replace HL := Lib.hid (HL.out.below hb)
    replace HhS := Lib.hid (HhS.out.below hb)
    replace HhS2 := Lib.hid (HhS2.out.below hb)
    replace HT := Lib.hid (HT.out.trans (hb.mono hs))
    clear hs
    have hs := HT.out.size
    clear hb
    rw [hS1]
    clear hG1 hS1 e1
    clear HhS2
    cases ho : okS l h
    · clear e2
      go_wp2_with fail
      go_ret
      exact ⟨rfl, HT.out⟩
    · clear e2
      obtain ⟨c0_0, c0_1⟩ := HL.out.cells
      go_wp2_with fail
      clear c0_0 c0_1
      (with_reducible refine (implBisimilarOf_any _ l _ hsl HL.out.r).mono ?_)
      rintro e w14 ⟨r, rfl, hr, hb⟩
      obtain ⟨AC, cC, rfl, hr⟩ := owns_form hr
      have hC := Cells.of_owns hr
      clear hr
      replace HhH := Lib.hid (HhH.out.below hb)
      replace HL := Lib.hid (HL.out.below hb)
      replace HhS := Lib.hid (HhS.out.below hb)
      replace HT := Lib.hid (HT.out.trans (hb.mono hs))
      clear hs
      have hs := HT.out.size
      clear hb
      have HhC := Lib.hid hC
      clear hC
      have hg : goodLab l = true := by unfold okS at ho; rw [Bool.and_eq_true] at ho; exact ho.1
      have hfh : 1 ≤ h.length := by unfold okS at ho; rw [Bool.and_eq_true] at ho; exact (isF_parts ho.2).1
      have hCn := (bisR_at hg).1
      have hC40 := bisR_len l
      have hCe : bisR l = lastL l := by unfold bisR; rw [if_pos hg]
      have HSAT := Lib.hid (show ∀ i, i < (bisR l).length → ∃ k : Nat, (bisR l).getD i 0 = (k : Int) ∧ (satS l h).contains (i : Int) = (satS l h).contains (k : Int) from fun i hi => by rw [hCe]; exact sat_same ho (by omega))
      have HTWO := Lib.hid (fun hn => sat_two (l := l) (f := h) ho hn)
      have HNOT := Lib.hid (fun hn => okS_not (l := l) (f := h) ho hn)
      clear hCe hCn ho hg
      generalize bisR l = C at *
      generalize satS l h = S at *
      go_wp2_with fail
      go_loopw [24] (fun i wr => ∃ k : Nat, k ≤ C.length ∧ i = .int .i64 k ∧ Below w14.heap.size w14 wr)
        (fun i _ => C.length - (intOf i).toNat)
      case atStart => exact ⟨0, Nat.zero_le _, rfl, Below.refl _ _⟩
      case round =>
        obtain ⟨k, hk, rfl, hbel⟩ := hrel
        have HBEL := Lib.hid hbel
        by_cases hlt : k < C.length
        · obtain ⟨q, hq1, hq2⟩ := HSAT.out k hlt
          obtain ⟨bC, oC, eC, hc⟩ := (HhC.out.below hbel).int hlt
          cases eC
          have ck := hc k hlt
          rw [hq1] at ck
          have hSL := HhS.out.below hbel
          have HV1 := Lib.hid (fun n => (vHas_any AS cS S (k : Int) (wr.drewN n) (by omega) (hSL.below (below_drewN' (Below.refl _ _) n))).mono (fun e w' h => And.intro h.1 h.2.symm))
          have HV2 := Lib.hid (fun n => (vHas_any AS cS S (q : Int) (wr.drewN n) (by omega) (hSL.below (below_drewN' (Below.refl _ _) n))).mono (fun e w' h => And.intro h.1 h.2.symm))
          rw [hq2] at HV1
          generalize S.contains (q : Int) = bb at *
          have hbb : (bb != bb) = false := by rw [bne_self_eq_false]
          clear hq1 hq2 hc hSL hbel
          go_wp2_with fail
          go_quiet ((first | with_reducible exact Calls.quiet_of_same (HV1.out _) | with_reducible exact Calls.quiet_of_same (HV2.out _)))
          go_wp2_with fail
          go_roundw
          case rel => exact ⟨k + 1, by omega, by go_num, below_drewN' HBEL.out _⟩
          case measure => simp [intOf]; omega
        · obtain rfl : k = C.length := by omega
          clear hbel hk hlt HSAT
          generalize wr = wx at *
          have hb := HBEL.out
          clear HBEL
          replace HhH := Lib.hid (HhH.out.below hb)
          replace HL := Lib.hid (HL.out.below hb)
          replace HhS := Lib.hid (HhS.out.below hb)
          replace HhC := Lib.hid (HhC.out.below hb)
          replace HT := Lib.hid (HT.out.trans (hb.mono hs))
          clear hs
          have hs := HT.out.size
          clear hb
          clear HhC
          by_cases hlen : 200 ≤ h.length
          · have hlen' : (200 : Int) ≤ (h.length : Int) := by omega
            go_wp2_with fail
            go_ret
            exact ⟨rfl, HT.out⟩
          have hlen' : ¬ (200 : Int) ≤ (h.length : Int) := by omega
          have h2 := HTWO.out (by omega)
          have h3 := HNOT.out (by omega)
          obtain ⟨bH, oH, eH, _⟩ := HhH.out.int (show 0 < h.length by omega)
          subst eH
          clear HTWO HNOT
          have HNF := Lib.hid (NF.start (l := l) (h := h) (V := .bool false) (R := .bool false) (bb := 0) (w0 := wx))
          have HH2 := Lib.hid h2
          have HH3 := Lib.hid h3
          have HHC := Lib.hid (show ∀ W, Below wx.heap.size wx W → Cells W (some ⟨bH, oH, none⟩) (ints h) from fun W hW => HhH.out.below hW)
          have HLW := Lib.hid (show ∀ W, Below wx.heap.size wx W → At W (w8.heap.size) (.slice BU l.shows.length dU) (.slice BT l.steps.length dT) l from fun W hW => HL.out.below hW)
          have hsz2 : (satS l (2 :: h)).length ≤ 60 := by have := satS_len l (2 :: h); omega
          clear h2 h3
          go_upto_region 30 with fail
          refine wp_region_inv (by kernel_rfl) (fun L act W => ∃ (bb : Nat) (V R : Value), act = ⟨#[Value.slice A bs.length c, undef, u2, Value.slice AF f.length cF, Value.string (fT f), Value.bool false, Value.string (fT f), Value.bool false, Value.bool false, Value.slice AB (pfI (fT f)).length cB, Value.bool (okP (gotI (fT f)) (fT f)), Value.string s, Value.slice AG g.length cG, Value.bool ok, Value.slice AG2 g.length cG2, Value.bool ok, Value.pointer (some ⟨w8.heap.size, 0, none⟩), Value.slice (some ⟨bH, oH, none⟩) h.length cH, Value.slice AS S.length cS, Value.bool true, Value.slice AS2 S.length cS2, Value.bool true, Value.slice AC C.length cC, Value.bool (goodLab l), Value.int IntKind.i64 (C.length : Int), bsel (L 8) (R) (undef), bsel (L 9) (.bool true) (undef), Value.slice A bs.length c, Value.bool false, Value.slice A bs.length c, Value.slice AF f.length cF, Value.tuple #[Value.string (fT f), Value.bool false], Value.slice AF f.length cF, Value.tuple #[Value.string (fT f), Value.bool false], Value.string (fT f), Value.bool false, Value.tuple #[Value.string (fT f), Value.bool false], Value.slice AF f.length cF, Value.tuple #[Value.string (fT f), Value.bool false], Value.string (fT f), Value.bool false, Value.slice AF f.length cF, Value.bool false, Value.bool false, Value.slice AF f.length cF, Value.bool false, Value.bool false, Value.bool false, Value.bool false, Value.bool false, Value.bool false, Value.bool false, Value.bool false, Value.string (fT f), Value.string (fT f), Value.bool false, Value.bool false, Value.bool false, Value.bool false, Value.bool false, Value.bool false, Value.bool false, Value.tuple #[Value.slice AB (pfI (fT f)).length cB, Value.bool (okP (gotI (fT f)) (fT f))], Value.string (fT f), Value.tuple #[Value.slice AB (pfI (fT f)).length cB, Value.bool (okP (gotI (fT f)) (fT f))], Value.slice AB (pfI (fT f)).length cB, Value.bool (okP (gotI (fT f)) (fT f)), Value.bool false, Value.bool false, undef, undef, undef, undef, undef, undef, undef, undef, Value.bool false, Value.slice A bs.length c, Value.slice A3 bs3.length c3, Value.string s, Value.tuple #[Value.slice AG g.length cG, Value.bool ok], Value.string s, Value.tuple #[Value.slice AG g.length cG, Value.bool ok], Value.slice AG g.length cG, Value.bool ok, Value.tuple #[Value.slice AG2 g.length cG2, Value.bool ok], Value.string s, Value.tuple #[Value.slice AG2 g.length cG2, Value.bool ok], Value.slice AG2 g.length cG2, Value.bool ok, Value.tuple #[Value.agg #[Value.slice BU l.shows.length dU, Value.slice BT l.steps.length dT], Value.slice (some ⟨bH, oH, none⟩) h.length cH], Value.slice A bs.length c, Value.slice A4 bs4.length c4, Value.tuple #[Value.agg #[Value.slice BU l.shows.length dU, Value.slice BT l.steps.length dT], Value.slice (some ⟨bH, oH, none⟩) h.length cH], Value.agg #[Value.slice BU l.shows.length dU, Value.slice BT l.steps.length dT], Value.slice (some ⟨bH, oH, none⟩) h.length cH, Value.tuple #[Value.slice AS S.length cS, Value.bool true], Value.agg #[Value.slice BU l.shows.length dU, Value.slice BT l.steps.length dT], Value.slice (some ⟨bH, oH, none⟩) h.length cH, Value.tuple #[Value.slice AS S.length cS, Value.bool true], Value.slice AS S.length cS, Value.bool true, Value.tuple #[Value.slice AS2 S.length cS2, Value.bool true], Value.agg #[Value.slice BU l.shows.length dU, Value.slice BT l.steps.length dT], Value.slice (some ⟨bH, oH, none⟩) h.length cH, Value.tuple #[Value.slice AS2 S.length cS2, Value.bool true], Value.slice AS2 S.length cS2, Value.bool true, Value.bool ok, Value.bool ok, Value.bool false, Value.bool false, Value.slice AG g.length cG, Value.slice AG2 g.length cG2, Value.bool true, Value.bool false, Value.bool false, Value.bool false, Value.bool true, Value.bool true, Value.bool false, Value.bool false, Value.bool false, Value.slice AS S.length cS, Value.slice AS2 S.length cS2, Value.bool true, Value.bool false, Value.bool false, Value.bool true, Value.bool false, Value.tuple #[Value.slice AC C.length cC, Value.bool (goodLab l)], Value.agg #[Value.slice BU l.shows.length dU, Value.slice BT l.steps.length dT], Value.tuple #[Value.slice AC C.length cC, Value.bool (goodLab l)], Value.slice AC C.length cC, Value.bool (goodLab l), Value.int IntKind.i64 (C.length : Int), Value.slice AC C.length cC, Value.int IntKind.i64 (C.length : Int), Value.bool false, u140, u141, u142, u143, u144, u145, u146, u147, u148, u149, u150, u151, Value.slice (some ⟨bH, oH, none⟩) h.length cH, Value.int IntKind.i64 (h.length : Int), Value.bool false, bsel (L 5) (.tuple #[R, .bool true]) (undef), bsel (L 0) (.agg #[.slice BU l.shows.length dU, .slice BT l.steps.length dT]) (undef), bsel (L 1) (.slice (some ⟨bb, 0, none⟩) 1 1) (undef), bsel (L 2) (.slice (some ⟨bH, oH, none⟩) h.length cH) (undef), bsel (L 3) (V) (undef), bsel (L 4) (.tuple #[R, .bool true]) (undef), bsel (L 6) (R) (undef), bsel (L 7) (.bool true) (undef), undef, undef, undef, undef, undef, undef, undef, undef, undef, undef, undef, undef], []⟩ ∧ (L 5 = true → L 4 = true) ∧ (L 6 = true → L 5 = true) ∧ (L 7 = true → L 5 = true) ∧ (L 8 = true → L 6 = true) ∧ (L 9 = true → L 7 = true) ∧ NF wx l h bb V R (L 1) (L 3) (L 4) W) ?h0 ?step ?fin
          case h0 => exact ⟨0, .bool false, .bool false, rfl, fun h => absurd h Bool.false_ne_true, fun h => absurd h Bool.false_ne_true, fun h => absurd h Bool.false_ne_true, fun h => absurd h Bool.false_ne_true, fun h => absurd h Bool.false_ne_true, HNF.out⟩
          case step =>
            intro L act W q oo hJ hL ho hd K3 hK3
            obtain ⟨bb, V, R, rfl, hI0, hI1, hI2, hI3, hI4, hF⟩ := hJ
            match q, ho with
            | 0, ho =>
              simp only [List.getElem?_toArray, List.getElem?_cons_zero, List.getElem?_cons_succ, Option.some.injEq] at ho
              subst ho
              simp [Region.binds] at hd
              have c0 := (HLW.out W hF.k).cells.1
              have c1 := (HLW.out W hF.k).cells.2
              try simp only [hd, bsel_t]
              have HF := Lib.hid hF
              clear hF
              have HQI0 := Lib.hid hI0
              clear hI0
              have HQI1 := Lib.hid hI1
              clear hI1
              have HQI2 := Lib.hid hI2
              clear hI2
              have HQI3 := Lib.hid hI3
              clear hI3
              have HQI4 := Lib.hid hI4
              clear hI4
              go_simp
              exact hK3 _ _ ⟨bb, V, R, by first | (simp [upd, bsel]; done) | simp [upd, bsel, hd], by simpa [upd] using HQI0.out, by simpa [upd] using HQI1.out, by simpa [upd] using HQI2.out, by simpa [upd] using HQI3.out, by simpa [upd] using HQI4.out, HF.out⟩
            | 1, ho =>
              simp only [List.getElem?_toArray, List.getElem?_cons_zero, List.getElem?_cons_succ, Option.some.injEq] at ho
              subst ho
              simp [Region.binds] at hd
              rw [hL] at hF
              try simp only [hd, bsel_t]
              have HF := Lib.hid hF.build
              clear hF
              have HQI0 := Lib.hid hI0
              clear hI0
              have HQI1 := Lib.hid hI1
              clear hI1
              have HQI2 := Lib.hid hI2
              clear hI2
              have HQI3 := Lib.hid hI3
              clear hI3
              have HQI4 := Lib.hid hI4
              clear hI4
              go_simp
              exact hK3 _ _ ⟨W.heap.size, V, R, by simp [upd, bsel, hd], by simpa [upd] using HQI0.out, by simpa [upd] using HQI1.out, by simpa [upd] using HQI2.out, by simpa [upd] using HQI3.out, by simpa [upd] using HQI4.out, by simpa [upd, hd] using HF.out⟩
            | 2, ho =>
              simp only [List.getElem?_toArray, List.getElem?_cons_zero, List.getElem?_cons_succ, Option.some.injEq] at ho
              subst ho
              simp [Region.binds] at hd
              try simp only [hd, bsel_t]
              have HF := Lib.hid hF
              clear hF
              have HQI0 := Lib.hid hI0
              clear hI0
              have HQI1 := Lib.hid hI1
              clear hI1
              have HQI2 := Lib.hid hI2
              clear hI2
              have HQI3 := Lib.hid hI3
              clear hI3
              have HQI4 := Lib.hid hI4
              clear hI4
              go_simp
              exact hK3 _ _ ⟨bb, V, R, by first | (simp [upd, bsel]; done) | simp [upd, bsel, hd], by simpa [upd] using HQI0.out, by simpa [upd] using HQI1.out, by simpa [upd] using HQI2.out, by simpa [upd] using HQI3.out, by simpa [upd] using HQI4.out, HF.out⟩
            | 3, ho =>
              simp only [List.getElem?_toArray, List.getElem?_cons_zero, List.getElem?_cons_succ, Option.some.injEq] at ho
              subst ho
              simp [Region.binds] at hd
              have d1 : L 1 = true := by simp [hd]
              rw [d1, hL] at hF
              simp only [hd, bsel_t]
              have HF := Lib.hid hF
              clear hF
              have HQI0 := Lib.hid hI0
              have HQI1 := Lib.hid hI1
              have HQI2 := Lib.hid hI2
              have HQI3 := Lib.hid hI3
              have HQI4 := Lib.hid hI4
              clear hI0 hI1 hI2 hI3 hI4
              refine step_appG el_int rfl (.tmp 157) (.tmp 158) rfl wx.heap.size (.slice (some ⟨bb, 0, none⟩) 1 1) 1 [.int .i64 2] (by rfl) (HF.out.h1 rfl rfl) ⟨bH, oH, none⟩ h.length cH (ints h) (by rfl) (by simp [ints]) (cells_add (HHC.out W HF.out.k)) (ints_oneC h) (by unfold maxLen; omega) (by omega) HF.out.k.size ?_
              intro v' W' ho' hg'
              have HF := Lib.hid (HF.out.app ho' (kept_of_grown hg'))
              clear ho' hg'
              try go_simp
              exact hK3 _ _ ⟨bb, v', R, by first | (simp [upd, bsel]; done) | simp [upd, bsel, hd], (by simpa [upd] using HQI0.out), (by simpa [upd] using HQI1.out), (by simpa [upd] using HQI2.out), (by simpa [upd] using HQI3.out), (by simpa [upd] using HQI4.out), by simpa [upd, d1] using HF.out⟩
            | 4, ho =>
              simp only [List.getElem?_toArray, List.getElem?_cons_zero, List.getElem?_cons_succ, Option.some.injEq] at ho
              subst ho
              simp [Region.binds] at hd
              have hz0 : L 5 = false := by
                cases e : L 5
                · rfl
                · exact absurd (hI0 e) (by simp [hL])
              have d3 : L 3 = true := by simp [hd]
              have z6 : L 6 = false := by cases e : L 6; rfl; exact absurd (hI1 e) (by simp [hz0])
              have z7 : L 7 = false := by cases e : L 7; rfl; exact absurd (hI2 e) (by simp [hz0])
              have z8 : L 8 = false := by cases e : L 8; rfl; exact absurd (hI3 e) (by simp [z6])
              have z9 : L 9 = false := by cases e : L 9; rfl; exact absurd (hI4 e) (by simp [z7])
              rw [d3, hL] at hF
              obtain ⟨AV, cV, rfl, hv⟩ := owns_form (hF.h3 rfl)
              clear hv
              simp only [hd, bsel_t]
              have HF := Lib.hid hF
              clear hF
              have HASK := Lib.hid (show Calls Tryz.prog 15 #[.agg #[.slice BU l.shows.length dU, .slice BT l.steps.length dT], .slice AV (h.length + 1) cV] W _ from implSatisfying_any _ l AV cV (2 :: h) W hsl (HLW.out W HF.out.k).r (by simp; omega) (Cells.of_owns (HF.out.h3 rfl)))
              have HQI0 := Lib.hid hI0
              clear hI0
              have HQI1 := Lib.hid hI1
              clear hI1
              have HQI2 := Lib.hid hI2
              clear hI2
              have HQI3 := Lib.hid hI3
              clear hI3
              have HQI4 := Lib.hid hI4
              clear hI4
              go_simp
              go_at_call 15
              (with_reducible refine HASK.out.mono ?_)
              rintro e W' ⟨r', rfl, ho', hb'⟩
              rw [HH3.out]
              have HF := Lib.hid (HF.out.ask hb' ho')
              clear ho' hb' HASK
              go_simp
              exact hK3 _ _ ⟨bb, .slice AV (h.length + 1) cV, r', by simp [upd, bsel, hd, hz0, z6, z7, z8, z9], (by simp [upd]), (by simpa [upd] using HQI1.out), (by simpa [upd] using HQI2.out), (by simpa [upd] using HQI3.out), (by simpa [upd] using HQI4.out), by simpa [upd, d3] using HF.out⟩
            | 5, ho =>
              simp only [List.getElem?_toArray, List.getElem?_cons_zero, List.getElem?_cons_succ, Option.some.injEq] at ho
              subst ho
              simp [Region.binds] at hd
              have hz1 : L 6 = false := by
                cases e : L 6
                · rfl
                · exact absurd (hI1 e) (by simp [hL])
              have hz2 : L 7 = false := by
                cases e : L 7
                · rfl
                · exact absurd (hI2 e) (by simp [hL])
              try simp only [hd, bsel_t]
              have HF := Lib.hid hF
              clear hF
              have HQI0 := Lib.hid hI0
              clear hI0
              have HQI1 := Lib.hid hI1
              clear hI1
              have HQI2 := Lib.hid hI2
              clear hI2
              have HQI3 := Lib.hid hI3
              clear hI3
              have HQI4 := Lib.hid hI4
              clear hI4
              go_simp
              exact hK3 _ _ ⟨bb, V, R, by simp [upd, bsel, hd, hz1, hz2], by simp [upd, hd], by simp [upd], by simp [upd], by simpa [upd] using HQI3.out, by simpa [upd] using HQI4.out, HF.out⟩
            | 6, ho =>
              simp only [List.getElem?_toArray, List.getElem?_cons_zero, List.getElem?_cons_succ, Option.some.injEq] at ho
              subst ho
              simp [Region.binds] at hd
              have hz3 : L 8 = false := by
                cases e : L 8
                · rfl
                · exact absurd (hI3 e) (by simp [hL])
              try simp only [hd, bsel_t]
              have HF := Lib.hid hF
              clear hF
              have HQI0 := Lib.hid hI0
              clear hI0
              have HQI1 := Lib.hid hI1
              clear hI1
              have HQI2 := Lib.hid hI2
              clear hI2
              have HQI3 := Lib.hid hI3
              clear hI3
              have HQI4 := Lib.hid hI4
              clear hI4
              go_simp
              exact hK3 _ _ ⟨bb, V, R, by simp [upd, bsel, hd, hz3], by simpa [upd] using HQI0.out, by simp [upd, hd], by simpa [upd] using HQI2.out, by simp [upd], by simpa [upd] using HQI4.out, HF.out⟩
            | 7, ho =>
              simp only [List.getElem?_toArray, List.getElem?_cons_zero, List.getElem?_cons_succ, Option.some.injEq] at ho
              subst ho
              simp [Region.binds] at hd
              have hz4 : L 9 = false := by
                cases e : L 9
                · rfl
                · exact absurd (hI4 e) (by simp [hL])
              try simp only [hd, bsel_t]
              have HF := Lib.hid hF
              clear hF
              have HQI0 := Lib.hid hI0
              clear hI0
              have HQI1 := Lib.hid hI1
              clear hI1
              have HQI2 := Lib.hid hI2
              clear hI2
              have HQI3 := Lib.hid hI3
              clear hI3
              have HQI4 := Lib.hid hI4
              clear hI4
              go_simp
              exact hK3 _ _ ⟨bb, V, R, by simp [upd, bsel, hd, hz4], by simpa [upd] using HQI0.out, by simpa [upd] using HQI1.out, by simp [upd, hd], by simpa [upd] using HQI3.out, by simp [upd], HF.out⟩
            | 8, ho =>
              simp only [List.getElem?_toArray, List.getElem?_cons_zero, List.getElem?_cons_succ, Option.some.injEq] at ho
              subst ho
              simp [Region.binds] at hd
              try simp only [hd, bsel_t]
              have HF := Lib.hid hF
              clear hF
              have HQI0 := Lib.hid hI0
              clear hI0
              have HQI1 := Lib.hid hI1
              clear hI1
              have HQI2 := Lib.hid hI2
              clear hI2
              have HQI3 := Lib.hid hI3
              clear hI3
              have HQI4 := Lib.hid hI4
              clear hI4
              go_simp
              exact hK3 _ _ ⟨bb, V, R, by simp [upd, bsel, hd], by simpa [upd] using HQI0.out, by simpa [upd] using HQI1.out, by simpa [upd] using HQI2.out, by simp [upd, hd], by simpa [upd] using HQI4.out, HF.out⟩
            | 9, ho =>
              simp only [List.getElem?_toArray, List.getElem?_cons_zero, List.getElem?_cons_succ, Option.some.injEq] at ho
              subst ho
              simp [Region.binds] at hd
              try simp only [hd, bsel_t]
              have HF := Lib.hid hF
              clear hF
              have HQI0 := Lib.hid hI0
              clear hI0
              have HQI1 := Lib.hid hI1
              clear hI1
              have HQI2 := Lib.hid hI2
              clear hI2
              have HQI3 := Lib.hid hI3
              clear hI3
              have HQI4 := Lib.hid hI4
              clear hI4
              go_simp
              exact hK3 _ _ ⟨bb, V, R, by simp [upd, bsel, hd], by simpa [upd] using HQI0.out, by simpa [upd] using HQI1.out, by simpa [upd] using HQI2.out, by simpa [upd] using HQI3.out, by simp [upd, hd], HF.out⟩
            | q + 10, ho => simp at ho
          case fin =>
            intro L act W hJ hfin
            obtain ⟨bb, V, R, rfl, hI0, hI1, hI2, hI3, hI4, hF⟩ := hJ
            have l0 : L 0 = true := by
              cases e : L 0
              · have x := hfin 0 _ rfl e
                simp [Region.binds] at x
              · rfl
            have l1 : L 1 = true := by
              cases e : L 1
              · have x := hfin 1 _ rfl e
                simp [Region.binds, l0] at x
              · rfl
            have l2 : L 2 = true := by
              cases e : L 2
              · have x := hfin 2 _ rfl e
                simp [Region.binds, l0, l1] at x
              · rfl
            have l3 : L 3 = true := by
              cases e : L 3
              · have x := hfin 3 _ rfl e
                simp [Region.binds, l0, l1, l2] at x
              · rfl
            have l4 : L 4 = true := by
              cases e : L 4
              · have x := hfin 4 _ rfl e
                simp [Region.binds, l0, l1, l2, l3] at x
              · rfl
            have l5 : L 5 = true := by
              cases e : L 5
              · have x := hfin 5 _ rfl e
                simp [Region.binds, l0, l1, l2, l3, l4] at x
              · rfl
            have l6 : L 6 = true := by
              cases e : L 6
              · have x := hfin 6 _ rfl e
                simp [Region.binds, l0, l1, l2, l3, l4, l5] at x
              · rfl
            have l7 : L 7 = true := by
              cases e : L 7
              · have x := hfin 7 _ rfl e
                simp [Region.binds, l0, l1, l2, l3, l4, l5, l6] at x
              · rfl
            have l8 : L 8 = true := by
              cases e : L 8
              · have x := hfin 8 _ rfl e
                simp [Region.binds, l0, l1, l2, l3, l4, l5, l6, l7] at x
              · rfl
            have l9 : L 9 = true := by
              cases e : L 9
              · have x := hfin 9 _ rfl e
                simp [Region.binds, l0, l1, l2, l3, l4, l5, l6, l7, l8] at x
              · rfl
            simp only [l0, l1, l2, l3, l4, l5, l6, l7, l8, l9, bsel_t]
            have hk := hF.k
            obtain ⟨RA, RC, rfl, hro⟩ := owns_form (hF.h4 l4)
            have HK9 := Lib.hid hk
            have c0 := (HLW.out W hk).cells.1
            have heq : (((satS l (2 :: h)).length : Int) + (S.length : Int) == (l.shows.length : Int)) = true := by have := HH2.out; simp; omega
            clear hk hF hfin hI0 hI1 hI2 hI3 hI4 hro l0 l1 l2 l3 l4 l5 l6 l7 l8 l9
            go_wp2_with fail
            go_ret
            exact ⟨rfl, HT.out.trans (HK9.out.mono hs)⟩
  · obtain ⟨hb1, hb2⟩ := HBK.out hF
    have hsf := sameI_refl f
    rw [hb2] at HhB ⊢
    rw [hb1]
    go_wp2_with fail
    (with_reducible refine (vInts_any AB AF cB cF f f _ (by omega) (by omega) HhB.out HhF.out).mono ?_)
    rintro e w15 ⟨rfl, hb⟩
    replace HA := Lib.hid (HA.out.below hb)
    replace HhF := Lib.hid (HhF.out.below hb)
    replace HhB := Lib.hid (HhB.out.below hb)
    replace HT := Lib.hid (HT.out.trans (hb.mono hs))
    clear hs
    have hs := HT.out.size
    clear hb
    rw [hsf]
    clear hb1 hb2 hsf
    clear HhF
    clear HhB
    clear hTS HBK
    go_wp2_with fail
    (with_reducible refine (show Calls Tryz.prog 31 #[.slice A bs.length c, .int .i64 1] _ _ from vCut_any A bs c 1 _ HA.out HRNG.out hcap (by omega) (by omega)).mono ?_)
    rintro e w16 ⟨A3, c3, bs3, rfl, hA3, hrng3, hlen3, hb⟩
    have HA3 := Lib.hid hA3
    have HR3 := Lib.hid hrng3
    clear hA3 hrng3
    replace HA := Lib.hid (HA.out.below hb)
    replace HT := Lib.hid (HT.out.trans (hb.mono hs))
    clear hs
    have hs := HT.out.size
    clear hb
    go_wp2_with fail
    (with_reducible refine (drawParseFormula_any A3 bs3 c3 _ HA3.out HR3.out (by omega)).mono ?_)
    rintro e w17 ⟨s, rfl, hsn, hb⟩
    clear HA3 HR3
    replace HA := Lib.hid (HA.out.below hb)
    replace HT := Lib.hid (HT.out.trans (hb.mono hs))
    clear hs
    have hs := HT.out.size
    clear hb
    obtain ⟨hp, ho⟩ := pf_same s
    have hT := Lib.hid (fun W => specParse_any s W (by omega))
    have hI := Lib.hid (fun W => implParse_any s W (by omega))
    rw [hp, ho] at hT
    have hpl := pf_len s
    clear hp ho
    generalize pfI s = g at *
    generalize okP (gotI s) s = ok at *
    go_wp2_with fail
    (with_reducible refine (hI.out _).mono ?_)
    rintro e w18 ⟨r, rfl, hr, hb⟩
    obtain ⟨AG, cG, rfl, hr⟩ := owns_form hr
    have hG := Cells.of_owns hr
    clear hr
    replace HA := Lib.hid (HA.out.below hb)
    replace HT := Lib.hid (HT.out.trans (hb.mono hs))
    clear hs
    have hs := HT.out.size
    clear hb
    have HhG := Lib.hid hG
    clear hG
    go_wp2_with fail
    (with_reducible refine (hT.out _).mono ?_)
    rintro e w19 ⟨r, rfl, hr, hb⟩
    obtain ⟨AG2, cG2, rfl, hr⟩ := owns_form hr
    have hG2 := Cells.of_owns hr
    clear hr
    replace HA := Lib.hid (HA.out.below hb)
    replace HhG := Lib.hid (HhG.out.below hb)
    replace HT := Lib.hid (HT.out.trans (hb.mono hs))
    clear hs
    have hs := HT.out.size
    clear hb
    have HhG2 := Lib.hid hG2
    clear hG2
    clear hT hI
    go_wp2_with fail
    (with_reducible refine (show Calls Tryz.prog 31 #[.slice A bs.length c, .int .i64 2] _ _ from vCut_any A bs c 2 _ HA.out HRNG.out hcap (by omega) (by omega)).mono ?_)
    rintro e w20 ⟨A4, c4, bs4, rfl, hA4, hrng4, hlen4, hb⟩
    have HA4 := Lib.hid hA4
    have HR4 := Lib.hid hrng4
    clear hA4 hrng4
    replace HA := Lib.hid (HA.out.below hb)
    replace HhG := Lib.hid (HhG.out.below hb)
    replace HhG2 := Lib.hid (HhG2.out.below hb)
    replace HT := Lib.hid (HT.out.trans (hb.mono hs))
    clear hs
    have hs := HT.out.size
    clear hb
    go_wp2_with fail
    (with_reducible refine (drawSatisfying_any A4 bs4 c4 _ HA4.out HR4.out (by omega)).mono ?_)
    rintro e w21 ⟨u, v, r, h, rfl, hD, hr, hhn, hb⟩
    clear HA4 HR4
    obtain ⟨AH, cH, rfl, hr⟩ := owns_form hr
    have hH := Cells.of_owns hr
    obtain ⟨l, BU, dU, BT, dT, hsl, hzl, rfl, rfl, hR⟩ := hD.open_
    clear hD hr
    replace HA := Lib.hid (HA.out.below hb)
    replace HhG := Lib.hid (HhG.out.below hb)
    replace HhG2 := Lib.hid (HhG2.out.below hb)
    replace HT := Lib.hid (HT.out.trans (hb.mono hs))
    clear hs
    have hs := HT.out.size
    clear hb
    have HhH := Lib.hid hH
    clear hH
    obtain ⟨w22, hw⟩ : ∃ W, W = w21.alloc (.cells #[.slice BU l.shows.length dU, .slice BT l.steps.length dT] 27) := ⟨_, rfl⟩
    have hb := below_new hw
    have h0 := At.new hw hR
    have HL := Lib.hid h0
    clear h0
    have hzw22 : w22.heap.size = w21.heap.size + 1 := by rw [hw]; simp
    replace HA := Lib.hid (HA.out.below hb)
    replace HhG := Lib.hid (HhG.out.below hb)
    replace HhG2 := Lib.hid (HhG2.out.below hb)
    replace HhH := Lib.hid (HhH.out.below hb)
    replace HT := Lib.hid (HT.out.trans (hb.mono hs))
    clear hs
    have hs := HT.out.size
    have HWw22 := Lib.hid hw
    clear hb hw
    clear hR
    clear HA
    go_wp2_with fail
    rw [← HWw22.out]
    (with_reducible refine (implSatisfying_any _ l AH cH h _ hsl HL.out.r (by omega) HhH.out).mono ?_)
    rintro e w23 ⟨r, rfl, hr, hb⟩
    obtain ⟨AS, cS, rfl, hr⟩ := owns_form hr
    have hS := Cells.of_owns hr
    clear hr
    replace HhG := Lib.hid (HhG.out.below hb)
    replace HhG2 := Lib.hid (HhG2.out.below hb)
    replace HhH := Lib.hid (HhH.out.below hb)
    replace HL := Lib.hid (HL.out.below hb)
    replace HT := Lib.hid (HT.out.trans (hb.mono hs))
    clear hs
    have hs := HT.out.size
    clear hb
    have HhS := Lib.hid hS
    clear hS
    obtain ⟨c0_0, c0_1⟩ := HL.out.cells
    go_wp2_with fail
    clear c0_0 c0_1
    (with_reducible refine (specSatisfying_any _ l AH cH h _ hsl HL.out.r (by omega) HhH.out).mono ?_)
    rintro e w24 ⟨r, rfl, hr, hb⟩
    obtain ⟨AS2, cS2, rfl, hr⟩ := owns_form hr
    have hS2 := Cells.of_owns hr
    clear hr
    replace HhG := Lib.hid (HhG.out.below hb)
    replace HhG2 := Lib.hid (HhG2.out.below hb)
    replace HhH := Lib.hid (HhH.out.below hb)
    replace HL := Lib.hid (HL.out.below hb)
    replace HhS := Lib.hid (HhS.out.below hb)
    replace HT := Lib.hid (HT.out.trans (hb.mono hs))
    clear hs
    have hs := HT.out.size
    clear hb
    have HhS2 := Lib.hid hS2
    clear hS2
    have hSn := satS_len l h
    have hz60 := hzl.a
    have e1 : (ok != ok) = false := by rw [bne_self_eq_false]
    have e2 : (okS l h != okS l h) = false := by rw [bne_self_eq_false]
    have hG1 := sameI_refl g
    have hS1 := sameI_refl (satS l h)
    go_wp2_with fail
    (with_reducible refine (vInts_any AG AG2 cG cG2 g g _ (by omega) (by omega) HhG.out HhG2.out).mono ?_)
    rintro e w25 ⟨rfl, hb⟩
    replace HhG := Lib.hid (HhG.out.below hb)
    replace HhG2 := Lib.hid (HhG2.out.below hb)
    replace HhH := Lib.hid (HhH.out.below hb)
    replace HL := Lib.hid (HL.out.below hb)
    replace HhS := Lib.hid (HhS.out.below hb)
    replace HhS2 := Lib.hid (HhS2.out.below hb)
    replace HT := Lib.hid (HT.out.trans (hb.mono hs))
    clear hs
    have hs := HT.out.size
    clear hb
    rw [hG1]
    clear HhG
    clear HhG2
    go_wp2_with fail
    (with_reducible refine (vInts_any AS AS2 cS cS2 (satS l h) (satS l h) _ (by omega) (by omega) HhS.out HhS2.out).mono ?_)
    rintro e w26 ⟨rfl, hb⟩
    replace HhH := Lib.hid (HhH.out.below hb)
    replace HL := Lib.hid (HL.out.below hb)
    replace HhS := Lib.hid (HhS.out.below hb)
    replace HhS2 := Lib.hid (HhS2.out.below hb)
    replace HT := Lib.hid (HT.out.trans (hb.mono hs))
    clear hs
    have hs := HT.out.size
    clear hb
    rw [hS1]
    clear hG1 hS1 e1
    clear HhS2
    cases ho : okS l h
    · clear e2
      go_wp2_with fail
      go_ret
      exact ⟨rfl, HT.out⟩
    · clear e2
      obtain ⟨c0_0, c0_1⟩ := HL.out.cells
      go_wp2_with fail
      clear c0_0 c0_1
      (with_reducible refine (implBisimilarOf_any _ l _ hsl HL.out.r).mono ?_)
      rintro e w27 ⟨r, rfl, hr, hb⟩
      obtain ⟨AC, cC, rfl, hr⟩ := owns_form hr
      have hC := Cells.of_owns hr
      clear hr
      replace HhH := Lib.hid (HhH.out.below hb)
      replace HL := Lib.hid (HL.out.below hb)
      replace HhS := Lib.hid (HhS.out.below hb)
      replace HT := Lib.hid (HT.out.trans (hb.mono hs))
      clear hs
      have hs := HT.out.size
      clear hb
      have HhC := Lib.hid hC
      clear hC
      have hg : goodLab l = true := by unfold okS at ho; rw [Bool.and_eq_true] at ho; exact ho.1
      have hfh : 1 ≤ h.length := by unfold okS at ho; rw [Bool.and_eq_true] at ho; exact (isF_parts ho.2).1
      have hCn := (bisR_at hg).1
      have hC40 := bisR_len l
      have hCe : bisR l = lastL l := by unfold bisR; rw [if_pos hg]
      have HSAT := Lib.hid (show ∀ i, i < (bisR l).length → ∃ k : Nat, (bisR l).getD i 0 = (k : Int) ∧ (satS l h).contains (i : Int) = (satS l h).contains (k : Int) from fun i hi => by rw [hCe]; exact sat_same ho (by omega))
      have HTWO := Lib.hid (fun hn => sat_two (l := l) (f := h) ho hn)
      have HNOT := Lib.hid (fun hn => okS_not (l := l) (f := h) ho hn)
      clear hCe hCn ho hg
      generalize bisR l = C at *
      generalize satS l h = S at *
      go_wp2_with fail
      go_loopw [24] (fun i wr => ∃ k : Nat, k ≤ C.length ∧ i = .int .i64 k ∧ Below w27.heap.size w27 wr)
        (fun i _ => C.length - (intOf i).toNat)
      case atStart => exact ⟨0, Nat.zero_le _, rfl, Below.refl _ _⟩
      case round =>
        obtain ⟨k, hk, rfl, hbel⟩ := hrel
        have HBEL := Lib.hid hbel
        by_cases hlt : k < C.length
        · obtain ⟨q, hq1, hq2⟩ := HSAT.out k hlt
          obtain ⟨bC, oC, eC, hc⟩ := (HhC.out.below hbel).int hlt
          cases eC
          have ck := hc k hlt
          rw [hq1] at ck
          have hSL := HhS.out.below hbel
          have HV1 := Lib.hid (fun n => (vHas_any AS cS S (k : Int) (wr.drewN n) (by omega) (hSL.below (below_drewN' (Below.refl _ _) n))).mono (fun e w' h => And.intro h.1 h.2.symm))
          have HV2 := Lib.hid (fun n => (vHas_any AS cS S (q : Int) (wr.drewN n) (by omega) (hSL.below (below_drewN' (Below.refl _ _) n))).mono (fun e w' h => And.intro h.1 h.2.symm))
          rw [hq2] at HV1
          generalize S.contains (q : Int) = bb at *
          have hbb : (bb != bb) = false := by rw [bne_self_eq_false]
          clear hq1 hq2 hc hSL hbel
          go_wp2_with fail
          go_quiet ((first | with_reducible exact Calls.quiet_of_same (HV1.out _) | with_reducible exact Calls.quiet_of_same (HV2.out _)))
          go_wp2_with fail
          go_roundw
          case rel => exact ⟨k + 1, by omega, by go_num, below_drewN' HBEL.out _⟩
          case measure => simp [intOf]; omega
        · obtain rfl : k = C.length := by omega
          clear hbel hk hlt HSAT
          generalize wr = wx at *
          have hb := HBEL.out
          clear HBEL
          replace HhH := Lib.hid (HhH.out.below hb)
          replace HL := Lib.hid (HL.out.below hb)
          replace HhS := Lib.hid (HhS.out.below hb)
          replace HhC := Lib.hid (HhC.out.below hb)
          replace HT := Lib.hid (HT.out.trans (hb.mono hs))
          clear hs
          have hs := HT.out.size
          clear hb
          clear HhC
          by_cases hlen : 200 ≤ h.length
          · have hlen' : (200 : Int) ≤ (h.length : Int) := by omega
            go_wp2_with fail
            go_ret
            exact ⟨rfl, HT.out⟩
          have hlen' : ¬ (200 : Int) ≤ (h.length : Int) := by omega
          have h2 := HTWO.out (by omega)
          have h3 := HNOT.out (by omega)
          obtain ⟨bH, oH, eH, _⟩ := HhH.out.int (show 0 < h.length by omega)
          subst eH
          clear HTWO HNOT
          have HNF := Lib.hid (NF.start (l := l) (h := h) (V := .bool false) (R := .bool false) (bb := 0) (w0 := wx))
          have HH2 := Lib.hid h2
          have HH3 := Lib.hid h3
          have HHC := Lib.hid (show ∀ W, Below wx.heap.size wx W → Cells W (some ⟨bH, oH, none⟩) (ints h) from fun W hW => HhH.out.below hW)
          have HLW := Lib.hid (show ∀ W, Below wx.heap.size wx W → At W (w21.heap.size) (.slice BU l.shows.length dU) (.slice BT l.steps.length dT) l from fun W hW => HL.out.below hW)
          have hsz2 : (satS l (2 :: h)).length ≤ 60 := by have := satS_len l (2 :: h); omega
          clear h2 h3
          go_upto_region 30 with fail
          refine wp_region_inv (by kernel_rfl) (fun L act W => ∃ (bb : Nat) (V R : Value), act = ⟨#[Value.slice A bs.length c, undef, u2, Value.slice AF f.length cF, Value.string (fT f), Value.bool true, Value.string (fT f), Value.bool true, Value.bool true, Value.slice AB f.length cB, Value.bool true, Value.string s, Value.slice AG g.length cG, Value.bool ok, Value.slice AG2 g.length cG2, Value.bool ok, Value.pointer (some ⟨w21.heap.size, 0, none⟩), Value.slice (some ⟨bH, oH, none⟩) h.length cH, Value.slice AS S.length cS, Value.bool true, Value.slice AS2 S.length cS2, Value.bool true, Value.slice AC C.length cC, Value.bool (goodLab l), Value.int IntKind.i64 (C.length : Int), bsel (L 8) (R) (undef), bsel (L 9) (.bool true) (undef), Value.slice A bs.length c, Value.bool false, Value.slice A bs.length c, Value.slice AF f.length cF, Value.tuple #[Value.string (fT f), Value.bool true], Value.slice AF f.length cF, Value.tuple #[Value.string (fT f), Value.bool true], Value.string (fT f), Value.bool true, Value.tuple #[Value.string (fT f), Value.bool true], Value.slice AF f.length cF, Value.tuple #[Value.string (fT f), Value.bool true], Value.string (fT f), Value.bool true, Value.slice AF f.length cF, Value.bool true, Value.bool true, Value.slice AF f.length cF, Value.bool true, Value.bool false, Value.bool false, Value.bool true, Value.bool true, Value.bool false, Value.bool false, Value.bool false, Value.string (fT f), Value.string (fT f), Value.bool false, Value.bool false, Value.bool false, Value.bool true, Value.bool true, Value.bool false, Value.bool false, Value.tuple #[Value.slice AB f.length cB, Value.bool true], Value.string (fT f), Value.tuple #[Value.slice AB f.length cB, Value.bool true], Value.slice AB f.length cB, Value.bool true, Value.bool true, Value.bool true, Value.bool true, Value.bool false, Value.bool false, Value.slice AB f.length cB, Value.slice AF f.length cF, Value.bool true, Value.bool false, Value.bool false, Value.bool false, Value.slice A bs.length c, Value.slice A3 bs3.length c3, Value.string s, Value.tuple #[Value.slice AG g.length cG, Value.bool ok], Value.string s, Value.tuple #[Value.slice AG g.length cG, Value.bool ok], Value.slice AG g.length cG, Value.bool ok, Value.tuple #[Value.slice AG2 g.length cG2, Value.bool ok], Value.string s, Value.tuple #[Value.slice AG2 g.length cG2, Value.bool ok], Value.slice AG2 g.length cG2, Value.bool ok, Value.tuple #[Value.agg #[Value.slice BU l.shows.length dU, Value.slice BT l.steps.length dT], Value.slice (some ⟨bH, oH, none⟩) h.length cH], Value.slice A bs.length c, Value.slice A4 bs4.length c4, Value.tuple #[Value.agg #[Value.slice BU l.shows.length dU, Value.slice BT l.steps.length dT], Value.slice (some ⟨bH, oH, none⟩) h.length cH], Value.agg #[Value.slice BU l.shows.length dU, Value.slice BT l.steps.length dT], Value.slice (some ⟨bH, oH, none⟩) h.length cH, Value.tuple #[Value.slice AS S.length cS, Value.bool true], Value.agg #[Value.slice BU l.shows.length dU, Value.slice BT l.steps.length dT], Value.slice (some ⟨bH, oH, none⟩) h.length cH, Value.tuple #[Value.slice AS S.length cS, Value.bool true], Value.slice AS S.length cS, Value.bool true, Value.tuple #[Value.slice AS2 S.length cS2, Value.bool true], Value.agg #[Value.slice BU l.shows.length dU, Value.slice BT l.steps.length dT], Value.slice (some ⟨bH, oH, none⟩) h.length cH, Value.tuple #[Value.slice AS2 S.length cS2, Value.bool true], Value.slice AS2 S.length cS2, Value.bool true, Value.bool ok, Value.bool ok, Value.bool false, Value.bool false, Value.slice AG g.length cG, Value.slice AG2 g.length cG2, Value.bool true, Value.bool false, Value.bool false, Value.bool false, Value.bool true, Value.bool true, Value.bool false, Value.bool false, Value.bool false, Value.slice AS S.length cS, Value.slice AS2 S.length cS2, Value.bool true, Value.bool false, Value.bool false, Value.bool true, Value.bool false, Value.tuple #[Value.slice AC C.length cC, Value.bool (goodLab l)], Value.agg #[Value.slice BU l.shows.length dU, Value.slice BT l.steps.length dT], Value.tuple #[Value.slice AC C.length cC, Value.bool (goodLab l)], Value.slice AC C.length cC, Value.bool (goodLab l), Value.int IntKind.i64 (C.length : Int), Value.slice AC C.length cC, Value.int IntKind.i64 (C.length : Int), Value.bool false, u140, u141, u142, u143, u144, u145, u146, u147, u148, u149, u150, u151, Value.slice (some ⟨bH, oH, none⟩) h.length cH, Value.int IntKind.i64 (h.length : Int), Value.bool false, bsel (L 5) (.tuple #[R, .bool true]) (undef), bsel (L 0) (.agg #[.slice BU l.shows.length dU, .slice BT l.steps.length dT]) (undef), bsel (L 1) (.slice (some ⟨bb, 0, none⟩) 1 1) (undef), bsel (L 2) (.slice (some ⟨bH, oH, none⟩) h.length cH) (undef), bsel (L 3) (V) (undef), bsel (L 4) (.tuple #[R, .bool true]) (undef), bsel (L 6) (R) (undef), bsel (L 7) (.bool true) (undef), undef, undef, undef, undef, undef, undef, undef, undef, undef, undef, undef, undef], []⟩ ∧ (L 5 = true → L 4 = true) ∧ (L 6 = true → L 5 = true) ∧ (L 7 = true → L 5 = true) ∧ (L 8 = true → L 6 = true) ∧ (L 9 = true → L 7 = true) ∧ NF wx l h bb V R (L 1) (L 3) (L 4) W) ?h0 ?step ?fin
          case h0 => exact ⟨0, .bool false, .bool false, rfl, fun h => absurd h Bool.false_ne_true, fun h => absurd h Bool.false_ne_true, fun h => absurd h Bool.false_ne_true, fun h => absurd h Bool.false_ne_true, fun h => absurd h Bool.false_ne_true, HNF.out⟩
          case step =>
            intro L act W q oo hJ hL ho hd K3 hK3
            obtain ⟨bb, V, R, rfl, hI0, hI1, hI2, hI3, hI4, hF⟩ := hJ
            match q, ho with
            | 0, ho =>
              simp only [List.getElem?_toArray, List.getElem?_cons_zero, List.getElem?_cons_succ, Option.some.injEq] at ho
              subst ho
              simp [Region.binds] at hd
              have c0 := (HLW.out W hF.k).cells.1
              have c1 := (HLW.out W hF.k).cells.2
              try simp only [hd, bsel_t]
              have HF := Lib.hid hF
              clear hF
              have HQI0 := Lib.hid hI0
              clear hI0
              have HQI1 := Lib.hid hI1
              clear hI1
              have HQI2 := Lib.hid hI2
              clear hI2
              have HQI3 := Lib.hid hI3
              clear hI3
              have HQI4 := Lib.hid hI4
              clear hI4
              go_simp
              exact hK3 _ _ ⟨bb, V, R, by first | (simp [upd, bsel]; done) | simp [upd, bsel, hd], by simpa [upd] using HQI0.out, by simpa [upd] using HQI1.out, by simpa [upd] using HQI2.out, by simpa [upd] using HQI3.out, by simpa [upd] using HQI4.out, HF.out⟩
            | 1, ho =>
              simp only [List.getElem?_toArray, List.getElem?_cons_zero, List.getElem?_cons_succ, Option.some.injEq] at ho
              subst ho
              simp [Region.binds] at hd
              rw [hL] at hF
              try simp only [hd, bsel_t]
              have HF := Lib.hid hF.build
              clear hF
              have HQI0 := Lib.hid hI0
              clear hI0
              have HQI1 := Lib.hid hI1
              clear hI1
              have HQI2 := Lib.hid hI2
              clear hI2
              have HQI3 := Lib.hid hI3
              clear hI3
              have HQI4 := Lib.hid hI4
              clear hI4
              go_simp
              exact hK3 _ _ ⟨W.heap.size, V, R, by simp [upd, bsel, hd], by simpa [upd] using HQI0.out, by simpa [upd] using HQI1.out, by simpa [upd] using HQI2.out, by simpa [upd] using HQI3.out, by simpa [upd] using HQI4.out, by simpa [upd, hd] using HF.out⟩
            | 2, ho =>
              simp only [List.getElem?_toArray, List.getElem?_cons_zero, List.getElem?_cons_succ, Option.some.injEq] at ho
              subst ho
              simp [Region.binds] at hd
              try simp only [hd, bsel_t]
              have HF := Lib.hid hF
              clear hF
              have HQI0 := Lib.hid hI0
              clear hI0
              have HQI1 := Lib.hid hI1
              clear hI1
              have HQI2 := Lib.hid hI2
              clear hI2
              have HQI3 := Lib.hid hI3
              clear hI3
              have HQI4 := Lib.hid hI4
              clear hI4
              go_simp
              exact hK3 _ _ ⟨bb, V, R, by first | (simp [upd, bsel]; done) | simp [upd, bsel, hd], by simpa [upd] using HQI0.out, by simpa [upd] using HQI1.out, by simpa [upd] using HQI2.out, by simpa [upd] using HQI3.out, by simpa [upd] using HQI4.out, HF.out⟩
            | 3, ho =>
              simp only [List.getElem?_toArray, List.getElem?_cons_zero, List.getElem?_cons_succ, Option.some.injEq] at ho
              subst ho
              simp [Region.binds] at hd
              have d1 : L 1 = true := by simp [hd]
              rw [d1, hL] at hF
              simp only [hd, bsel_t]
              have HF := Lib.hid hF
              clear hF
              have HQI0 := Lib.hid hI0
              have HQI1 := Lib.hid hI1
              have HQI2 := Lib.hid hI2
              have HQI3 := Lib.hid hI3
              have HQI4 := Lib.hid hI4
              clear hI0 hI1 hI2 hI3 hI4
              refine step_appG el_int rfl (.tmp 157) (.tmp 158) rfl wx.heap.size (.slice (some ⟨bb, 0, none⟩) 1 1) 1 [.int .i64 2] (by rfl) (HF.out.h1 rfl rfl) ⟨bH, oH, none⟩ h.length cH (ints h) (by rfl) (by simp [ints]) (cells_add (HHC.out W HF.out.k)) (ints_oneC h) (by unfold maxLen; omega) (by omega) HF.out.k.size ?_
              intro v' W' ho' hg'
              have HF := Lib.hid (HF.out.app ho' (kept_of_grown hg'))
              clear ho' hg'
              try go_simp
              exact hK3 _ _ ⟨bb, v', R, by first | (simp [upd, bsel]; done) | simp [upd, bsel, hd], (by simpa [upd] using HQI0.out), (by simpa [upd] using HQI1.out), (by simpa [upd] using HQI2.out), (by simpa [upd] using HQI3.out), (by simpa [upd] using HQI4.out), by simpa [upd, d1] using HF.out⟩
            | 4, ho =>
              simp only [List.getElem?_toArray, List.getElem?_cons_zero, List.getElem?_cons_succ, Option.some.injEq] at ho
              subst ho
              simp [Region.binds] at hd
              have hz0 : L 5 = false := by
                cases e : L 5
                · rfl
                · exact absurd (hI0 e) (by simp [hL])
              have d3 : L 3 = true := by simp [hd]
              have z6 : L 6 = false := by cases e : L 6; rfl; exact absurd (hI1 e) (by simp [hz0])
              have z7 : L 7 = false := by cases e : L 7; rfl; exact absurd (hI2 e) (by simp [hz0])
              have z8 : L 8 = false := by cases e : L 8; rfl; exact absurd (hI3 e) (by simp [z6])
              have z9 : L 9 = false := by cases e : L 9; rfl; exact absurd (hI4 e) (by simp [z7])
              rw [d3, hL] at hF
              obtain ⟨AV, cV, rfl, hv⟩ := owns_form (hF.h3 rfl)
              clear hv
              simp only [hd, bsel_t]
              have HF := Lib.hid hF
              clear hF
              have HASK := Lib.hid (show Calls Tryz.prog 15 #[.agg #[.slice BU l.shows.length dU, .slice BT l.steps.length dT], .slice AV (h.length + 1) cV] W _ from implSatisfying_any _ l AV cV (2 :: h) W hsl (HLW.out W HF.out.k).r (by simp; omega) (Cells.of_owns (HF.out.h3 rfl)))
              have HQI0 := Lib.hid hI0
              clear hI0
              have HQI1 := Lib.hid hI1
              clear hI1
              have HQI2 := Lib.hid hI2
              clear hI2
              have HQI3 := Lib.hid hI3
              clear hI3
              have HQI4 := Lib.hid hI4
              clear hI4
              go_simp
              go_at_call 15
              (with_reducible refine HASK.out.mono ?_)
              rintro e W' ⟨r', rfl, ho', hb'⟩
              rw [HH3.out]
              have HF := Lib.hid (HF.out.ask hb' ho')
              clear ho' hb' HASK
              go_simp
              exact hK3 _ _ ⟨bb, .slice AV (h.length + 1) cV, r', by simp [upd, bsel, hd, hz0, z6, z7, z8, z9], (by simp [upd]), (by simpa [upd] using HQI1.out), (by simpa [upd] using HQI2.out), (by simpa [upd] using HQI3.out), (by simpa [upd] using HQI4.out), by simpa [upd, d3] using HF.out⟩
            | 5, ho =>
              simp only [List.getElem?_toArray, List.getElem?_cons_zero, List.getElem?_cons_succ, Option.some.injEq] at ho
              subst ho
              simp [Region.binds] at hd
              have hz1 : L 6 = false := by
                cases e : L 6
                · rfl
                · exact absurd (hI1 e) (by simp [hL])
              have hz2 : L 7 = false := by
                cases e : L 7
                · rfl
                · exact absurd (hI2 e) (by simp [hL])
              try simp only [hd, bsel_t]
              have HF := Lib.hid hF
              clear hF
              have HQI0 := Lib.hid hI0
              clear hI0
              have HQI1 := Lib.hid hI1
              clear hI1
              have HQI2 := Lib.hid hI2
              clear hI2
              have HQI3 := Lib.hid hI3
              clear hI3
              have HQI4 := Lib.hid hI4
              clear hI4
              go_simp
              exact hK3 _ _ ⟨bb, V, R, by simp [upd, bsel, hd, hz1, hz2], by simp [upd, hd], by simp [upd], by simp [upd], by simpa [upd] using HQI3.out, by simpa [upd] using HQI4.out, HF.out⟩
            | 6, ho =>
              simp only [List.getElem?_toArray, List.getElem?_cons_zero, List.getElem?_cons_succ, Option.some.injEq] at ho
              subst ho
              simp [Region.binds] at hd
              have hz3 : L 8 = false := by
                cases e : L 8
                · rfl
                · exact absurd (hI3 e) (by simp [hL])
              try simp only [hd, bsel_t]
              have HF := Lib.hid hF
              clear hF
              have HQI0 := Lib.hid hI0
              clear hI0
              have HQI1 := Lib.hid hI1
              clear hI1
              have HQI2 := Lib.hid hI2
              clear hI2
              have HQI3 := Lib.hid hI3
              clear hI3
              have HQI4 := Lib.hid hI4
              clear hI4
              go_simp
              exact hK3 _ _ ⟨bb, V, R, by simp [upd, bsel, hd, hz3], by simpa [upd] using HQI0.out, by simp [upd, hd], by simpa [upd] using HQI2.out, by simp [upd], by simpa [upd] using HQI4.out, HF.out⟩
            | 7, ho =>
              simp only [List.getElem?_toArray, List.getElem?_cons_zero, List.getElem?_cons_succ, Option.some.injEq] at ho
              subst ho
              simp [Region.binds] at hd
              have hz4 : L 9 = false := by
                cases e : L 9
                · rfl
                · exact absurd (hI4 e) (by simp [hL])
              try simp only [hd, bsel_t]
              have HF := Lib.hid hF
              clear hF
              have HQI0 := Lib.hid hI0
              clear hI0
              have HQI1 := Lib.hid hI1
              clear hI1
              have HQI2 := Lib.hid hI2
              clear hI2
              have HQI3 := Lib.hid hI3
              clear hI3
              have HQI4 := Lib.hid hI4
              clear hI4
              go_simp
              exact hK3 _ _ ⟨bb, V, R, by simp [upd, bsel, hd, hz4], by simpa [upd] using HQI0.out, by simpa [upd] using HQI1.out, by simp [upd, hd], by simpa [upd] using HQI3.out, by simp [upd], HF.out⟩
            | 8, ho =>
              simp only [List.getElem?_toArray, List.getElem?_cons_zero, List.getElem?_cons_succ, Option.some.injEq] at ho
              subst ho
              simp [Region.binds] at hd
              try simp only [hd, bsel_t]
              have HF := Lib.hid hF
              clear hF
              have HQI0 := Lib.hid hI0
              clear hI0
              have HQI1 := Lib.hid hI1
              clear hI1
              have HQI2 := Lib.hid hI2
              clear hI2
              have HQI3 := Lib.hid hI3
              clear hI3
              have HQI4 := Lib.hid hI4
              clear hI4
              go_simp
              exact hK3 _ _ ⟨bb, V, R, by simp [upd, bsel, hd], by simpa [upd] using HQI0.out, by simpa [upd] using HQI1.out, by simpa [upd] using HQI2.out, by simp [upd, hd], by simpa [upd] using HQI4.out, HF.out⟩
            | 9, ho =>
              simp only [List.getElem?_toArray, List.getElem?_cons_zero, List.getElem?_cons_succ, Option.some.injEq] at ho
              subst ho
              simp [Region.binds] at hd
              try simp only [hd, bsel_t]
              have HF := Lib.hid hF
              clear hF
              have HQI0 := Lib.hid hI0
              clear hI0
              have HQI1 := Lib.hid hI1
              clear hI1
              have HQI2 := Lib.hid hI2
              clear hI2
              have HQI3 := Lib.hid hI3
              clear hI3
              have HQI4 := Lib.hid hI4
              clear hI4
              go_simp
              exact hK3 _ _ ⟨bb, V, R, by simp [upd, bsel, hd], by simpa [upd] using HQI0.out, by simpa [upd] using HQI1.out, by simpa [upd] using HQI2.out, by simpa [upd] using HQI3.out, by simp [upd, hd], HF.out⟩
            | q + 10, ho => simp at ho
          case fin =>
            intro L act W hJ hfin
            obtain ⟨bb, V, R, rfl, hI0, hI1, hI2, hI3, hI4, hF⟩ := hJ
            have l0 : L 0 = true := by
              cases e : L 0
              · have x := hfin 0 _ rfl e
                simp [Region.binds] at x
              · rfl
            have l1 : L 1 = true := by
              cases e : L 1
              · have x := hfin 1 _ rfl e
                simp [Region.binds, l0] at x
              · rfl
            have l2 : L 2 = true := by
              cases e : L 2
              · have x := hfin 2 _ rfl e
                simp [Region.binds, l0, l1] at x
              · rfl
            have l3 : L 3 = true := by
              cases e : L 3
              · have x := hfin 3 _ rfl e
                simp [Region.binds, l0, l1, l2] at x
              · rfl
            have l4 : L 4 = true := by
              cases e : L 4
              · have x := hfin 4 _ rfl e
                simp [Region.binds, l0, l1, l2, l3] at x
              · rfl
            have l5 : L 5 = true := by
              cases e : L 5
              · have x := hfin 5 _ rfl e
                simp [Region.binds, l0, l1, l2, l3, l4] at x
              · rfl
            have l6 : L 6 = true := by
              cases e : L 6
              · have x := hfin 6 _ rfl e
                simp [Region.binds, l0, l1, l2, l3, l4, l5] at x
              · rfl
            have l7 : L 7 = true := by
              cases e : L 7
              · have x := hfin 7 _ rfl e
                simp [Region.binds, l0, l1, l2, l3, l4, l5, l6] at x
              · rfl
            have l8 : L 8 = true := by
              cases e : L 8
              · have x := hfin 8 _ rfl e
                simp [Region.binds, l0, l1, l2, l3, l4, l5, l6, l7] at x
              · rfl
            have l9 : L 9 = true := by
              cases e : L 9
              · have x := hfin 9 _ rfl e
                simp [Region.binds, l0, l1, l2, l3, l4, l5, l6, l7, l8] at x
              · rfl
            simp only [l0, l1, l2, l3, l4, l5, l6, l7, l8, l9, bsel_t]
            have hk := hF.k
            obtain ⟨RA, RC, rfl, hro⟩ := owns_form (hF.h4 l4)
            have HK9 := Lib.hid hk
            have c0 := (HLW.out W hk).cells.1
            have heq : (((satS l (2 :: h)).length : Int) + (S.length : Int) == (l.shows.length : Int)) = true := by have := HH2.out; simp; omega
            clear hk hF hfin hI0 hI1 hI2 hI3 hI4 hro l0 l1 l2 l3 l4 l5 l6 l7 l8 l9
            go_wp2_with fail
            go_ret
            exact ⟨rfl, HT.out.trans (HK9.out.mono hs)⟩

end Go.Proofs.YtdgnhfhaaghoaaaGreatDoor
