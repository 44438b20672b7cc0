/- Elements: substitutions, atoms and ions, with their checks: walked. -/
import Derived.Test.YtijkdpdmclkmlaaGreatDoorProg
import Derived.Test.YtijkdpdmclkmlaaGreatDoorJ0
import Derived.Test.YtijkdpdmclkmlaaGreatDoorJ41
import Derived.Test.YtijkdpdmclkmlaaGreatDoorJ42
import Derived.Test.YtijkdpdmclkmlaaGreatDoorJ33
import Derived.Test.YtijkdpdmclkmlaaGreatDoorJ24
import Derived.Test.YtijkdpdmclkmlaaGreatDoorJ29
import Derived.BigQuiet
set_option linter.unusedSimpArgs false
set_option linter.unusedVariables false
set_option maxRecDepth 100000
set_option maxHeartbeats 16000000
namespace Go.Proofs.YtijkdpdmclkmlaaGreatDoor
open Go.RowKit
def subOk (fr tos : List ByteArray) : Bool := namesB fr && ((tos.length : Int) == (fr.length : Int)) && allNamesB tos

theorem notName1_any (s : ByteArray) (w : World) (hs : s.size ≤ maxLen) : Calls Tryz.prog 118 (#[.string s] ++ #[]) w fun e w' => e = .returned (.bool (!nameB s)) ∧ Below w.heap.size w w' := by
 have HN := Lib.hid (isName_any s w hs)
 cases hn : nameB s
 all_goals
  rw [hn] at HN
  clear hn
  go_enter Tryz.func118, Tryz.ntmps118
  go_wp2_with fail
  (with_reducible refine HN.out.mono ?_)
  rintro e w1 ⟨rfl, hb⟩
  have HB := Lib.hid hb
  clear hb
  go_wp2_with fail
  go_ret
  exact ⟨rfl, HB.out⟩

theorem notName1_anyAll (A : Option Addr) (c : Nat) (l : List ByteArray) (w : World) (hl : l.length ≤ 1000) (hz : ∀ s ∈ l, s.size ≤ 1000) (hA : Cells w A (strs l)) :
  Calls Tryz.prog 117 #[.slice A l.length c, .func (.func 118) #[] #[]] w fun e w' => e = .returned (.bool (!allNamesB l)) ∧ Below w.heap.size w w' := by
 have h := containsFuncGS_any A c l 118 #[] (fun k => !nameB (l.getD k default)) w (by omega) hA (enter_of Tryz.func118 (by kernel_rfl) (by kernel_rfl)) (fun k x W hx hb => by
  obtain ⟨hk, hxe⟩ := List.getElem?_eq_some_iff.1 hx
  have e : l.getD k default = x := by simp [List.getD, hx]
  rw [e]
  exact notName1_any x W (by have := hz x (by rw [← hxe]; exact List.getElem_mem hk); unfold maxLen; omega))
 rw [show anyR l.length (fun k => !nameB (l.getD k default)) = !allNamesB l from by have e := any_not1 l.length (fun k => nameB (l.getD k default)); rw [show allNamesB l = _ from e.symm, Bool.not_not]] at h
 exact h

theorem notName2_any (s : ByteArray) (w : World) (hs : s.size ≤ maxLen) : Calls Tryz.prog 193 (#[.string s] ++ #[]) w fun e w' => e = .returned (.bool (!nameB s)) ∧ Below w.heap.size w w' := by
 have HN := Lib.hid (isName_any s w hs)
 cases hn : nameB s
 all_goals
  rw [hn] at HN
  clear hn
  go_enter Tryz.func193, Tryz.ntmps193
  go_wp2_with fail
  (with_reducible refine HN.out.mono ?_)
  rintro e w1 ⟨rfl, hb⟩
  have HB := Lib.hid hb
  clear hb
  go_wp2_with fail
  go_ret
  exact ⟨rfl, HB.out⟩

theorem notName2_anyAll (A : Option Addr) (c : Nat) (l : List ByteArray) (w : World) (hl : l.length ≤ 1000) (hz : ∀ s ∈ l, s.size ≤ 1000) (hA : Cells w A (strs l)) :
  Calls Tryz.prog 117 #[.slice A l.length c, .func (.func 193) #[] #[]] w fun e w' => e = .returned (.bool (!allNamesB l)) ∧ Below w.heap.size w w' := by
 have h := containsFuncGS_any A c l 193 #[] (fun k => !nameB (l.getD k default)) w (by omega) hA (enter_of Tryz.func193 (by kernel_rfl) (by kernel_rfl)) (fun k x W hx hb => by
  obtain ⟨hk, hxe⟩ := List.getElem?_eq_some_iff.1 hx
  have e : l.getD k default = x := by simp [List.getD, hx]
  rw [e]
  exact notName2_any x W (by have := hz x (by rw [← hxe]; exact List.getElem_mem hk); unfold maxLen; omega))
 rw [show anyR l.length (fun k => !nameB (l.getD k default)) = !allNamesB l from by have e := any_not1 l.length (fun k => nameB (l.getD k default)); rw [show allNamesB l = _ from e.symm, Bool.not_not]] at h
 exact h

theorem specSubstitutionOf_any (A B : Option Addr) (c d : Nat) (fr tos : List ByteArray) (w : World) (hl : fr.length ≤ 1000) (hz : ∀ s ∈ fr, s.size ≤ 1000) (hl2 : tos.length ≤ 1000) (hz2 : ∀ s ∈ tos, s.size ≤ 1000) (hA : Cells w A (strs fr)) (hB : Cells w B (strs tos)) :
  Calls Tryz.prog 39 #[.slice A fr.length c, .slice B tos.length d] w fun e w' => ∃ X : BX, e = .returned (.tuple #[.agg X.cells, .bool (subOk fr tos)]) ∧ X.g = (if subOk fr tos then subG fr tos (sortS tos) else zeroG) ∧ RG w w' X := by
 have HF := Lib.hid (show ∀ W, Below w.heap.size w W → Cells W A (strs fr) from fun W hb => hA.below hb)
 have HT := Lib.hid (show ∀ W, Below w.heap.size w W → Cells W B (strs tos) from fun W hb => hB.below hb)
 have HPT := Lib.hid (show subOk fr tos = (namesB fr && ((tos.length : Int) == (fr.length : Int)) && allNamesB tos) from rfl)
 obtain ⟨w0, hw0, hb0, hs0, hR0⟩ := laid1 w (.cells ZB 31)
 have HB0 := Lib.hid hb0
 have HR0 := Lib.hid hR0
 have HN := Lib.hid (l3Names_any A c fr w0 hl hz (HF.out w0 hb0))
 have HW0 := Lib.hid (show w.alloc (.cells #[.int .i64 0, .slice none 0 0, .slice none 0 0, .int .i64 0, .slice none 0 0, .slice none 0 0] 31) = w0 from hw0.symm)
 clear hb0 hR0 hw0
 have HC3 := Lib.hid (show ∀ W, Below w.heap.size w W → Calls Tryz.prog 122 #[.slice B tos.length d] W (fun e w' => e = .returned (.bool (allNamesB tos)) ∧ w' = W) from fun W hb => l3AllNames_any B d tos W hl2 hz2 (hB.below hb))
 clear hA hB hz hz2
 cases c1 : namesB fr
 ·have HE := Lib.hid (show subOk fr tos = false from by rw [HPT.out, c1]; rfl)
  rw [c1] at HN
  rw [HE.out]
  clear c1
  go_enter Tryz.func39, Tryz.ntmps39
  go_wp2_with fail
  rw [HW0.out]
  (with_reducible refine HN.out.mono ?_)
  rintro e w1 ⟨rfl, hb1⟩
  have HB2 := Lib.hid hb1
  clear hb1
  have hRW := (HB2.out.block w.heap.size (by omega)).trans HR0.out
  obtain ⟨z0, z1, z2, z3, z4, z5, f0, f1, f2, f3, f4, f5⟩ := row6f hRW
  clear hRW
  go_wp2_with fail
  have hf := fin6_of (X := zeroX) HB0.out HR0.out (by have := (Kept.of_below HB2.out (fun q => w.heap.size + 1 ≤ q)).size; omega) ((Kept.of_below HB2.out (fun q => w.heap.size + 1 ≤ q))) (zero_ob _ _)
  (try simp only [Exit.inBlock, Exit.then])
  refine bodyPost_ret (rcell2 rfl _ _ w.heap.size _ _ _ _ rfl hf.1 Tryz.underlying31 rfl (by kernel_rfl)) rfl ?_
  exact ⟨_, rfl, rfl, hf.2⟩
 rw [c1] at HN
 cases c2 : ((tos.length : Int) == (fr.length : Int))
 ·have HE := Lib.hid (show subOk fr tos = false from by rw [HPT.out, c1, c2]; rfl)
  have qn : ((tos.length : Int) != (fr.length : Int)) = true := by unfold bne; rw [c2]; rfl
  rw [HE.out]
  clear c1
  go_enter Tryz.func39, Tryz.ntmps39
  go_wp2_with fail
  rw [HW0.out]
  (with_reducible refine HN.out.mono ?_)
  rintro e w1 ⟨rfl, hb1⟩
  have HB2 := Lib.hid hb1
  clear hb1
  have hRW := (HB2.out.block w.heap.size (by omega)).trans HR0.out
  obtain ⟨z0, z1, z2, z3, z4, z5, f0, f1, f2, f3, f4, f5⟩ := row6f hRW
  clear hRW
  go_wp2_with fail
  have hf := fin6_of (X := zeroX) HB0.out HR0.out (by have := (Kept.of_below HB2.out (fun q => w.heap.size + 1 ≤ q)).size; omega) ((Kept.of_below HB2.out (fun q => w.heap.size + 1 ≤ q))) (zero_ob _ _)
  (try simp only [Exit.inBlock, Exit.then])
  refine bodyPost_ret (rcell2 rfl _ _ w.heap.size _ _ _ _ rfl hf.1 Tryz.underlying31 rfl (by kernel_rfl)) rfl ?_
  exact ⟨_, rfl, rfl, hf.2⟩
 have hle : tos.length = fr.length := by have := beq_iff_eq.1 c2; omega
 have HLE := Lib.hid hle
 have qn : ((tos.length : Int) != (fr.length : Int)) = false := by unfold bne; rw [c2]; rfl
 clear hle
 cases c3 : allNamesB tos
 ·have HE := Lib.hid (show subOk fr tos = false from by rw [HPT.out, c1, c2, c3]; rfl)
  rw [c3] at HC3
  rw [HE.out]
  clear c1 c3
  go_enter Tryz.func39, Tryz.ntmps39
  go_wp2_with fail
  rw [HW0.out]
  (with_reducible refine HN.out.mono ?_)
  rintro e w1 ⟨rfl, hb1⟩
  have HC := Lib.hid (HC3.out w1 (HB0.out.trans (hb1.mono HB0.out.size)))
  have HB1 := Lib.hid hb1
  clear hb1
  go_wp2_with fail
  (with_reducible refine HC.out.mono ?_)
  rintro e w2 ⟨rfl, rfl⟩
  have HB2 := Lib.hid (show Below w0.heap.size w0 w2 from HB1.out)
  clear HC
  have hRW := (HB2.out.block w.heap.size (by omega)).trans HR0.out
  obtain ⟨z0, z1, z2, z3, z4, z5, f0, f1, f2, f3, f4, f5⟩ := row6f hRW
  clear hRW
  go_wp2_with fail
  have hf := fin6_of (X := zeroX) HB0.out HR0.out (by have := (Kept.of_below HB2.out (fun q => w.heap.size + 1 ≤ q)).size; omega) ((Kept.of_below HB2.out (fun q => w.heap.size + 1 ≤ q))) (zero_ob _ _)
  (try simp only [Exit.inBlock, Exit.then])
  refine bodyPost_ret (rcell2 rfl _ _ w.heap.size _ _ _ _ rfl hf.1 Tryz.underlying31 rfl (by kernel_rfl)) rfl ?_
  exact ⟨_, rfl, rfl, hf.2⟩
 have HE := Lib.hid (show subOk fr tos = true from by rw [HPT.out, c1, c2, c3]; rfl)
 rw [c3] at HC3
 rw [HE.out]
 clear c1 c3
 go_enter Tryz.func39, Tryz.ntmps39
 go_wp2_with fail
 rw [HW0.out]
 (with_reducible refine HN.out.mono ?_)
 rintro e w1 ⟨rfl, hb1⟩
 have HC := Lib.hid (HC3.out w1 (HB0.out.trans (hb1.mono HB0.out.size)))
 have HB1 := Lib.hid hb1
 clear hb1
 go_wp2_with fail
 (with_reducible refine HC.out.mono ?_)
 rintro e w2 ⟨rfl, rfl⟩
 have HB2 := Lib.hid (show Below w0.heap.size w0 w2 from HB1.out)
 have hs2 := HB2.out.size
 clear HC HN HC3
 have hbw := HB0.out.trans (HB2.out.mono HB0.out.size)
 have HC := Lib.hid (l3Substitution_any A B c d fr tos w2 hl HLE.out (HF.out w2 hbw) (HT.out w2 hbw))
 clear hbw
 go_wp2_with fail
 (with_reducible refine HC.out.mono ?_)
 rintro e w9 ⟨X, rfl, hXg, hr⟩
 obtain ⟨xr, xe, xnv, xsv, xov, xiv, xns, xls, xss, xos, xis⟩ := X
 obtain ⟨YN, dN, YS, dS, YO, dO, YI, dI, e1, e2, e3, e4⟩ := hr.ob.form
 dsimp only at e1 e2 e3 e4
 subst e1 e2 e3 e4
 have HXG := Lib.hid hXg
 have HB9 := Lib.hid (HB2.out.trans (hr.bel.mono HB2.out.size))
 have hsw := HB2.out.size
 have HR := Lib.hid hr
 clear hXg hr HC
 simp only [BX.cells]
 have hRW := (HB9.out.block w.heap.size (by omega)).trans HR0.out
 obtain ⟨z0, z1, z2, z3, z4, z5, f0, f1, f2, f3, f4, f5⟩ := row6f hRW
 clear hRW
 go_wp2_with fail
 have hf := fin6_of (X := ⟨xr, xe, .slice YN xns.length dN, .slice YS xss.length dS, .slice YO xos.length dO, .slice YI xis.length dI, xns, xls, xss, xos, xis⟩) HB0.out HR0.out (by have := (Kept.of_below HB9.out (fun q => w.heap.size + 1 ≤ q)).size; omega) ((Kept.of_below HB9.out (fun q => w.heap.size + 1 ≤ q))) (HR.out.ob.mono (by omega))
 (try simp only [Exit.inBlock, Exit.then])
 refine bodyPost_ret (rcell2 rfl _ _ w.heap.size _ _ _ _ rfl hf.1 Tryz.underlying31 rfl (by kernel_rfl)) rfl ?_
 exact ⟨_, rfl, (by first | exact HXG.out | (rw [if_pos rfl]; exact HXG.out)), hf.2⟩
theorem implSubstitutionOf_any (A B : Option Addr) (c d : Nat) (fr tos : List ByteArray) (w : World) (hl : fr.length ≤ 1000) (hz : ∀ s ∈ fr, s.size ≤ 1000) (hl2 : tos.length ≤ 1000) (hz2 : ∀ s ∈ tos, s.size ≤ 1000) (hA : Cells w A (strs fr)) (hB : Cells w B (strs tos)) :
    Calls Tryz.prog 38 #[.slice A fr.length c, .slice B tos.length d] w fun e w' => ∃ X : BX, e = .returned (.tuple #[.agg X.cells, .bool (subOk fr tos)]) ∧ X.g = (if subOk fr tos then subG fr tos (sortS tos) else zeroG) ∧ RG w w' X := by
  have HF := Lib.hid (show ∀ W, Below w.heap.size w W → Cells W A (strs fr) from fun W hb => hA.below hb)
  have HT := Lib.hid (show ∀ W, Below w.heap.size w W → Cells W B (strs tos) from fun W hb => hB.below hb)
  have HPT := Lib.hid (show subOk fr tos = (namesB fr && ((tos.length : Int) == (fr.length : Int)) && allNamesB tos) from rfl)
  obtain ⟨w0, hw0, hb0, hs0, hR0⟩ := laid1 w (.cells ZB 31)
  have HB0 := Lib.hid hb0
  have HR0 := Lib.hid hR0
  have HN := Lib.hid (areNames_any A c fr w0 hl hz (HF.out w0 hb0))
  have HW0 := Lib.hid (show w.alloc (.cells #[.int .i64 0, .slice none 0 0, .slice none 0 0, .int .i64 0, .slice none 0 0, .slice none 0 0] 31) = w0 from hw0.symm)
  clear hb0 hR0 hw0
  have HC3 := Lib.hid (show ∀ W, Below w.heap.size w W → Calls Tryz.prog 117 #[.slice B tos.length d, .func (.func 118) #[] #[]] W (fun e w' => e = .returned (.bool (!allNamesB tos)) ∧ Below W.heap.size W w') from fun W hb => notName1_anyAll B d tos W hl2 hz2 (hB.below hb))
  clear hA hB hz hz2
  cases c1 : namesB fr
  · have HE := Lib.hid (show subOk fr tos = false from by rw [HPT.out, c1]; rfl)
    rw [c1] at HN
    rw [HE.out]
    clear c1
    go_enter Tryz.func38, Tryz.ntmps38
    go_wp2_with fail
    rw [HW0.out]
    (with_reducible refine HN.out.mono ?_)
    rintro e w1 ⟨rfl, hb1⟩
    have HB2 := Lib.hid hb1
    clear hb1
    have hRW := (HB2.out.block w.heap.size (by omega)).trans HR0.out
    obtain ⟨z0, z1, z2, z3, z4, z5, f0, f1, f2, f3, f4, f5⟩ := row6f hRW
    clear hRW
    go_wp2_with fail
    have hf := fin6_of (X := zeroX) HB0.out HR0.out (by have := (Kept.of_below HB2.out (fun q => w.heap.size + 1 ≤ q)).size; omega) ((Kept.of_below HB2.out (fun q => w.heap.size + 1 ≤ q))) (zero_ob _ _)
    (try simp only [Exit.inBlock, Exit.then])
    refine bodyPost_ret (rcell2 rfl _ _ w.heap.size _ _ _ _ rfl hf.1 Tryz.underlying31 rfl (by kernel_rfl)) rfl ?_
    exact ⟨_, rfl, rfl, hf.2⟩
  rw [c1] at HN
  cases c2 : ((tos.length : Int) == (fr.length : Int))
  · have HE := Lib.hid (show subOk fr tos = false from by rw [HPT.out, c1, c2]; rfl)
    have qn : ((tos.length : Int) != (fr.length : Int)) = true := by unfold bne; rw [c2]; rfl
    rw [HE.out]
    clear c1
    go_enter Tryz.func38, Tryz.ntmps38
    go_wp2_with fail
    rw [HW0.out]
    (with_reducible refine HN.out.mono ?_)
    rintro e w1 ⟨rfl, hb1⟩
    have HB2 := Lib.hid hb1
    clear hb1
    have hRW := (HB2.out.block w.heap.size (by omega)).trans HR0.out
    obtain ⟨z0, z1, z2, z3, z4, z5, f0, f1, f2, f3, f4, f5⟩ := row6f hRW
    clear hRW
    go_wp2_with fail
    have hf := fin6_of (X := zeroX) HB0.out HR0.out (by have := (Kept.of_below HB2.out (fun q => w.heap.size + 1 ≤ q)).size; omega) ((Kept.of_below HB2.out (fun q => w.heap.size + 1 ≤ q))) (zero_ob _ _)
    (try simp only [Exit.inBlock, Exit.then])
    refine bodyPost_ret (rcell2 rfl _ _ w.heap.size _ _ _ _ rfl hf.1 Tryz.underlying31 rfl (by kernel_rfl)) rfl ?_
    exact ⟨_, rfl, rfl, hf.2⟩
  have hle : tos.length = fr.length := by have := beq_iff_eq.1 c2; omega
  have HLE := Lib.hid hle
  have qn : ((tos.length : Int) != (fr.length : Int)) = false := by unfold bne; rw [c2]; rfl
  clear hle
  cases c3 : allNamesB tos
  · have HE := Lib.hid (show subOk fr tos = false from by rw [HPT.out, c1, c2, c3]; rfl)
    rw [c3] at HC3
    rw [HE.out]
    clear c1 c3
    go_enter Tryz.func38, Tryz.ntmps38
    go_wp2_with fail
    rw [HW0.out]
    (with_reducible refine HN.out.mono ?_)
    rintro e w1 ⟨rfl, hb1⟩
    have HC := Lib.hid (HC3.out w1 (HB0.out.trans (hb1.mono HB0.out.size)))
    have HB1 := Lib.hid hb1
    clear hb1
    go_wp2_with fail
    (with_reducible refine HC.out.mono ?_)
    rintro e w2 ⟨rfl, hb2⟩
    have HB2 := Lib.hid (show Below w0.heap.size w0 w2 from HB1.out.trans (hb2.mono HB1.out.size))
    clear HC
    have hRW := (HB2.out.block w.heap.size (by omega)).trans HR0.out
    obtain ⟨z0, z1, z2, z3, z4, z5, f0, f1, f2, f3, f4, f5⟩ := row6f hRW
    clear hRW
    go_wp2_with fail
    have hf := fin6_of (X := zeroX) HB0.out HR0.out (by have := (Kept.of_below HB2.out (fun q => w.heap.size + 1 ≤ q)).size; omega) ((Kept.of_below HB2.out (fun q => w.heap.size + 1 ≤ q))) (zero_ob _ _)
    (try simp only [Exit.inBlock, Exit.then])
    refine bodyPost_ret (rcell2 rfl _ _ w.heap.size _ _ _ _ rfl hf.1 Tryz.underlying31 rfl (by kernel_rfl)) rfl ?_
    exact ⟨_, rfl, rfl, hf.2⟩
  have HE := Lib.hid (show subOk fr tos = true from by rw [HPT.out, c1, c2, c3]; rfl)
  rw [c3] at HC3
  rw [HE.out]
  clear c1 c3
  go_enter Tryz.func38, Tryz.ntmps38
  go_wp2_with fail
  rw [HW0.out]
  (with_reducible refine HN.out.mono ?_)
  rintro e w1 ⟨rfl, hb1⟩
  have HC := Lib.hid (HC3.out w1 (HB0.out.trans (hb1.mono HB0.out.size)))
  have HB1 := Lib.hid hb1
  clear hb1
  go_wp2_with fail
  (with_reducible refine HC.out.mono ?_)
  rintro e w2 ⟨rfl, hb2⟩
  have HB2 := Lib.hid (show Below w0.heap.size w0 w2 from HB1.out.trans (hb2.mono HB1.out.size))
  have hs2 := HB2.out.size
  clear HC HN HC3
  have hbw := HB0.out.trans (HB2.out.mono HB0.out.size)
  have HC := Lib.hid (sortedNames_any B d tos w2 (by omega) (HT.out w2 hbw))
  clear hbw
  go_wp2_with fail
  (with_reducible refine HC.out.mono ?_)
  rintro e w3 ⟨u, rfl, hu, hb3⟩
  obtain ⟨outs, ho⟩ : ∃ outs, outs = sortS tos := ⟨_, rfl⟩
  rw [← ho] at hu
  have hol : outs.length ≤ 1000 := by rw [ho]; exact Nat.le_trans (sortS_len tos) (by omega)
  obtain ⟨AO, cO, rfl, hu⟩ := owns_form hu
  have HOUT := Lib.hid ho
  have HU := Lib.hid (owns_mono hu (show w.heap.size + 1 ≤ w2.heap.size by omega))
  have HB3 := Lib.hid (HB2.out.trans (hb3.mono HB2.out.size))
  have hs3 := HB3.out.size
  clear hu hb3 HC ho
  obtain ⟨wN, hwN, hbn, hsn, hPn⟩ := laid1 w3 (.cells #[.int .i64 0, .slice none 0 0, .slice none 0 0, .int .i64 0, .slice AO outs.length cO, .slice none 0 0] 31)
  have HBN := Lib.hid (HB0.out.trans ((HB3.out.trans (hbn.mono HB3.out.size)).mono HB0.out.size))
  have HRN := Lib.hid (((HB3.out.trans (hbn.mono HB3.out.size)).block w.heap.size (by omega)).trans HR0.out)
  have HG0 := Lib.hid (show GT wN (w.heap.size + 1) w3.heap.size (BX.cells (bI 0 (.slice AO outs.length cO) outs nilV [] nilV ((List.range 0).map fun i : Nat => (fr.getD i default, atS outs (tos.getD i default))))) (bI 0 (.slice AO outs.length cO) outs nilV [] nilV ((List.range 0).map fun i : Nat => (fr.getD i default, atS outs (tos.getD i default)))) wN from
    { k := Kept.refl _ _, box := hPn
      ob := { N := { own := none_row, len := rfl, lk := fun i l x h => by simp [bI] at h, dis := fun i j l l' b _ h => by simp [bI] at h, sep := fun i l b h => by simp [bI] at h }, S := none_row, I := none_row, O := owns_below HU.out hbn (Nat.le_refl _) } })
  have hsN : w.heap.size + 1 ≤ wN.heap.size := by omega
  have HWN := Lib.hid hwN
  clear hwN hbn hPn
  go_wp2_with fail
  rw [← HWN.out]
  go_loopw [29] (fun i wr => ∃ (j : Nat) (iv : Value), j ≤ fr.length ∧ i = .int .i64 j ∧ GT wN (w.heap.size + 1) w3.heap.size (BX.cells (bI 0 (.slice AO outs.length cO) outs nilV [] iv ((List.range j).map fun i : Nat => (fr.getD i default, atS outs (tos.getD i default))))) (bI 0 (.slice AO outs.length cO) outs nilV [] iv ((List.range j).map fun i : Nat => (fr.getD i default, atS outs (tos.getD i default)))) wr)
    (fun i _ => fr.length - (intOf i).toNat)
  case atStart => exact ⟨0, nilV, Nat.zero_le _, rfl, HG0.out⟩
  obtain ⟨j, iv, hj, rfl, hG⟩ := hrel
  have hI := bI_I hG
  obtain ⟨AI, cI, rfl, hI⟩ := owns_form hI
  have hsz : w.heap.size + 1 ≤ wr.heap.size := by have := hG.k.size; omega
  have z5 := hG.cell (f := 5) (u := .slice AI j cI) rfl
  have HI := Lib.hid hI
  have HG := Lib.hid hG
  clear hI
  by_cases hlt : j < fr.length
  · have hlt2 : j < tos.length := by have := HLE.out; omega
    have hkb := gt_below hG HBN.out (by omega)
    obtain ⟨b, o, rfl, hc⟩ := (HF.out wr hkb).str hlt
    obtain ⟨b2, o2, rfl, hc2⟩ := (HT.out wr hkb).str hlt2
    obtain ⟨s, hse⟩ : ∃ s, s = fr.getD j default := ⟨_, rfl⟩
    obtain ⟨s2, hse2⟩ : ∃ s2, s2 = tos.getD j default := ⟨_, rfl⟩
    have k0 := hc j hlt
    rw [← hse] at k0
    have HSE := Lib.hid hse
    have HSE2 := Lib.hid hse2
    clear hc hc2 hse hse2 hG hkb
    have b0 : (0 : Int) ≤ (j : Int) := by omega
    have b1 : (j : Int) < (fr.length : Int) := by omega
    have b2' : (j : Int) < (tos.length : Int) := by omega
    go_wp2_with fail
    clear k0
    refine wp_region_ph (by kernel_rfl) [some 34, some 35, some 36, some 37, some 38, some 39, some 40, some 41, some 42, some 43, some 44, some 45, some 46, some 47, none] (fun q v => match q with | 0 => v = .pointer (some ⟨w3.heap.size, 5, none⟩) | 1 => v = .slice AI j cI | 2 => v = .string s | 3 => v = .pointer (some ⟨w3.heap.size, 4, none⟩) | 4 => v = .slice AO outs.length cO | 5 => v = .slice (some ⟨b2, o2, none⟩) tos.length d | 6 => v = .int .i64 (j : Int) | 7 => v = .pointer (some ⟨b2, o2 + j, none⟩) | 8 => v = .string s2 | 9 => v = .int .i64 (atS outs s2) | 10 => v = .agg #[.string s, .int .i64 (atS outs s2)] | 11 => ∃ gz, v = .slice (some ⟨gz, 0, none⟩) 1 1 | 12 => True | 13 => v = .pointer (some ⟨w3.heap.size, 5, none⟩) | 14 => True | _ => True) (fun q v W => match q with | 0 => True | 1 => True | 2 => True | 3 => True | 4 => True | 5 => True | 6 => True | 7 => True | 8 => True | 9 => True | 10 => True | 11 => ∀ g, v = .slice (some ⟨g, 0, none⟩) 1 1 → 0 ≤ g ∧ W.heap[g]? = some (.cells #[.string s, .int .i64 (atS outs s2)] 90) | 12 => True | 13 => True | 14 => True | _ => True) (fun W W' => Below W.heap.size W W') 12 14 (fun kk W => GT wN (w.heap.size + 1) w3.heap.size (BX.cells (bI 0 (.slice AO outs.length cO) outs nilV [] (.slice AI j cI) ((List.range j).map fun i : Nat => (fr.getD i default, atS outs (tos.getD i default))))) (bI 0 (.slice AO outs.length cO) outs nilV [] (.slice AI j cI) ((List.range j).map fun i : Nat => (fr.getD i default, atS outs (tos.getD i default)))) W) (fun v W => (∃ A2 c2, v = .slice A2 (j + 1) c2) ∧ GT wN (w.heap.size + 1) w3.heap.size (BX.cells (bI 0 (.slice AO outs.length cO) outs nilV [] (.slice AI j cI) ((List.range j).map fun i : Nat => (fr.getD i default, atS outs (tos.getD i default))))) (bI 0 (.slice AO outs.length cO) outs nilV [] v ((List.range (j + 1)).map fun i : Nat => (fr.getD i default, atS outs (tos.getD i default)))) W) (fun v W => (∃ A2 c2, v = .slice A2 (j + 1) c2) ∧ GT wN (w.heap.size + 1) w3.heap.size (BX.cells (bI 0 (.slice AO outs.length cO) outs nilV [] v ((List.range (j + 1)).map fun i : Nat => (fr.getD i default, atS outs (tos.getD i default))))) (bI 0 (.slice AO outs.length cO) outs nilV [] v ((List.range (j + 1)).map fun i : Nat => (fr.getD i default, atS outs (tos.getD i default)))) W) (by kernel_rfl) (by kernel_rfl) (by kernel_rfl) (by decide) (by decide) ?m1o ?r1s ?h10 ?s1t ?f1i
    case m1o => exact fun k k' W h hd => hd
    case r1s =>
      intro q v W W' ht h
      match q, h with
      | 0, h | 1, h | 2, h | 3, h | 4, h | 5, h | 6, h | 7, h | 8, h | 9, h | 10, h | 12, h | 13, h | 14, h => exact h
      | 11, h => exact fun g e => ⟨(h g e).1, (ht.block g (Array.getElem?_eq_some_iff.1 (h g e).2).1).trans (h g e).2⟩
      | q + 15, _ => trivial
    case h10 => exact HG.out.drew
    case s1t =>
      as_aux_lemma =>
        intro L act W q oo hJ hL hA hS ho hd K3 hK3
        match q, ho with
        | 0, ho =>
          cases ho
          have a6 : act.tmps[6]? = some _ := hJ.out 6 (by decide)
          clear hJ hd
          go_simp
          exact hK3 _ _ (.same (by decide) (by decide) rfl rfl (fun _ => trivial))
        | 1, ho =>
          cases ho
          simp [Region.binds] at hd
          have v0 := hJ.val (by simp [hd] : L 0 = true) rfl fun _ h => h
          have hn : L 12 = false := hA (by kernel_rfl)
          have hD := hJ.d hn
          have z5 := hD.cell (f := 5) (u := .slice AI j cI) rfl
          have HD := Lib.hid hD
          clear hD hJ hd
          go_simp
          exact hK3 _ _ (.same (by decide) (by decide) rfl rfl (fun _ => trivial))
        | 2, ho =>
          cases ho
          have a8 : act.tmps[8]? = some _ := hJ.out 8 (by decide)
          clear hJ hd
          go_simp
          exact hK3 _ _ (.same (by decide) (by decide) rfl rfl (fun _ => trivial))
        | 3, ho =>
          cases ho
          have a6 : act.tmps[6]? = some _ := hJ.out 6 (by decide)
          clear hJ hd
          go_simp
          exact hK3 _ _ (.same (by decide) (by decide) rfl rfl (fun _ => trivial))
        | 4, ho =>
          cases ho
          simp [Region.binds] at hd
          have v3 := hJ.val (by simp [hd] : L 3 = true) rfl fun _ h => h
          have hn : L 12 = false := hA (by kernel_rfl)
          have hD := hJ.d hn
          have z4 := hD.cell (f := 4) (u := .slice AO outs.length cO) rfl
          have HD := Lib.hid hD
          clear hD hJ hd
          go_simp
          exact hK3 _ _ (.same (by decide) (by decide) rfl rfl (fun _ => trivial))
        | 5, ho =>
          cases ho
          have a1 : act.tmps[1]? = some _ := hJ.out 1 (by decide)
          clear hJ hd
          go_simp
          exact hK3 _ _ (.same (by decide) (by decide) rfl rfl (fun _ => trivial))
        | 6, ho =>
          cases ho
          have a7 : act.tmps[7]? = some _ := hJ.out 7 (by decide)
          clear hJ hd
          go_simp
          exact hK3 _ _ (.same (by decide) (by decide) rfl rfl (fun _ => trivial))
        | 7, ho =>
          cases ho
          simp [Region.binds] at hd
          have v5 := hJ.val (by simp [hd] : L 5 = true) rfl fun _ h => h
          have v6 := hJ.val (by simp [hd] : L 6 = true) rfl fun _ h => h
          clear hJ hd
          go_simp
          exact hK3 _ _ (.same (by decide) (by decide) rfl rfl (fun _ => trivial))
        | 8, ho =>
          cases ho
          simp [Region.binds] at hd
          have v7 := hJ.val (by simp [hd] : L 7 = true) rfl fun _ h => h
          have hn : L 12 = false := hA (by kernel_rfl)
          have hD := hJ.d hn
          obtain ⟨b', o', e', hc'⟩ := (HT.out W (gt_below hD HBN.out (by omega))).str hlt2
          cases e'
          have k0W := hc' j hlt2
          rw [← HSE2.out] at k0W
          clear hc'
          have HD := Lib.hid hD
          clear hD hJ hd
          go_simp
          exact hK3 _ _ (.same (by decide) (by decide) rfl rfl (fun _ => trivial))
        | 9, ho =>
          cases ho
          simp [Region.binds] at hd
          have v4 := hJ.val (by simp [hd] : L 4 = true) rfl fun _ h => h
          have v8 := hJ.val (by simp [hd] : L 8 = true) rfl fun _ h => h
          have hn : L 12 = false := hA (by kernel_rfl)
          have hD := hJ.d hn
          have HD := Lib.hid hD
          clear hJ hd hD
          go_simp
          go_at_call 121
          refine ((show Calls Tryz.prog 121 #[.slice AO outs.length cO, .string s2] W (fun e w' => e = .returned (.int .i64 (atS outs s2)) ∧ W = w') from by have h := indexS_any AO cO outs s2 W (by omega) (Cells.of_owns HD.out.ob.O); rw [idx_atS] at h; exact h)).mono ?_
          rintro e W' ⟨rfl, hb⟩
          go_simp
          exact hK3 _ _ (.lay (by decide) (by decide) rfl hn (by first | exact Below.refl _ _ | (rw [← hb]; exact Below.refl _ _)) trivial (by first | exact HD.out | (rw [← hb]; exact HD.out)))
        | 10, ho =>
          cases ho
          simp [Region.binds] at hd
          have v2 := hJ.val (by simp [hd] : L 2 = true) rfl fun _ h => h
          have v9 := hJ.val (by simp [hd] : L 9 = true) rfl fun _ h => h
          clear hJ hd
          go_simp
          exact hK3 _ _ (.same (by decide) (by decide) rfl rfl (fun _ => trivial))
        | 11, ho =>
          cases ho
          simp [Region.binds] at hd
          have v10 := hJ.val (by simp [hd] : L 10 = true) rfl fun _ h => h
          have hn : L 12 = false := hA (by kernel_rfl)
          have hD := hJ.d hn
          have HD := Lib.hid hD
          clear hJ hd hD
          go_simp
          exact hK3 _ _ (.lay (by decide) (by decide) ⟨_, rfl⟩ hn ((Below.refl _ _).alloc (Nat.le_refl _) _) (fun g e => by injection e with e1; injection e1 with e2; injection e2 with e3; subst e3; exact ⟨Nat.zero_le _, heap_alloc_new _ _⟩) (HD.out.lay ((Below.refl _ _).alloc (Nat.le_refl _) _)))
        | 12, ho =>
          cases ho
          simp [Region.binds] at hd
          have v1 := hJ.val (by simp [hd] : L 1 = true) rfl fun _ h => h
          have l11 : L 11 = true := by simp [hd]
          obtain ⟨u11, v11, ⟨gz, rfl⟩, hr11⟩ := hJ.has 11 45 l11 rfl
          have hn : L 12 = false := hA (by kernel_rfl)
          have hD := hJ.d hn
          obtain ⟨hg1, hg2⟩ := hr11 hn gz rfl
          clear hJ hd
          refine step_appM el_wireG rfl (.tmp 35) (.tmp 45) rfl (w.heap.size + 1) ((.slice AI j cI)) j (((List.range j).map fun i : Nat => (fr.getD i default, atS outs (tos.getD i default))).flatMap encWi) (by simp [Act.eval, *]) (bI_I hD) ⟨gz, 0, none⟩ 1 1 [.string s, .int .i64 (atS outs s2)] (by simp [Act.eval, *]) (by decide) rfl (fun j' u' hj' => by rw [show (⟨gz, 0, none⟩ : Addr).add j' = ⟨gz, j', none⟩ from by simp [Addr.add, eq_comm], cell_of_row W gz _ _ _ _ hg2]; simpa using hj') (wi_one _ _) (by omega) (by have := hD.k.size; omega) ?_
          intro v' W' ho hk hm
          exact hK3 _ _ (.app rfl (by decide) trivial (⟨by obtain ⟨A2, c2, e, _⟩ := owns_form ho; exact ⟨A2, c2, e⟩, hD.addI (by rw [← HSE.out, ← HSE2.out]; exact ho) hk⟩))
        | 13, ho =>
          cases ho
          have a6 : act.tmps[6]? = some _ := hJ.out 6 (by decide)
          clear hJ hd
          go_simp
          exact hK3 _ _ (.same (by decide) (by decide) rfl rfl (fun _ => trivial))
        | 14, ho =>
          cases ho
          simp [Region.binds] at hd
          have v13 := hJ.val (by simp [hd] : L 13 = true) rfl fun _ h => h
          have l12 : L 12 = true := by simp [hd]
          obtain ⟨u, hu, hE⟩ := hJ.e l12 hL
          have v12 := hu 46 rfl
          clear hJ hd
          obtain ⟨⟨A2, c2, rfl⟩, hE⟩ := hE
          have z5 := hE.cell (f := 5) (u := .slice AI j cI) rfl
          have f5 := frozen_of_row W w3.heap.size 5 _ _ hE.box
          have HFF := Lib.hid ((⟨⟨A2, c2, rfl⟩, hE.put 5 _⟩ : (∃ A2 c2, _ = Value.slice A2 (j + 1) c2) ∧ GT wN (w.heap.size + 1) w3.heap.size (BX.cells (bI 0 (.slice AO outs.length cO) outs nilV [] (.slice A2 (j + 1) c2) ((List.range (j + 1)).map fun i : Nat => (fr.getD i default, atS outs (tos.getD i default))))) (bI 0 (.slice AO outs.length cO) outs nilV [] (.slice A2 (j + 1) c2) ((List.range (j + 1)).map fun i : Nat => (fr.getD i default, atS outs (tos.getD i default)))) _))
          clear hE
          go_simp
          exact hK3 undef _ (.store rfl (by decide) trivial _ hu HFF.out)
        | q + 15, ho => simp at ho
    intro V W hF hV
    obtain ⟨v, hv, hF⟩ := hF
    have v12 : V 12 = v := hv 46 rfl
    have v0 : V 0 = _ := hV 0 34 rfl
    have v1 : V 1 = _ := hV 1 35 rfl
    have v2 : V 2 = _ := hV 2 36 rfl
    have v3 : V 3 = _ := hV 3 37 rfl
    have v4 : V 4 = _ := hV 4 38 rfl
    have v5 : V 5 = _ := hV 5 39 rfl
    have v6 : V 6 = _ := hV 6 40 rfl
    have v7 : V 7 = _ := hV 7 41 rfl
    have v8 : V 8 = _ := hV 8 42 rfl
    have v9 : V 9 = _ := hV 9 43 rfl
    have v10 : V 10 = _ := hV 10 44 rfl
    obtain ⟨gz11, v11⟩ : ∃ gz, V 11 = .slice (some ⟨gz, 0, none⟩) 1 1 := hV 11 45 rfl
    have v13 : V 13 = _ := hV 13 47 rfl
    clear hV hv
    simp only [layV, List.setIfInBounds_toArray, List.set_cons_zero, List.set_cons_succ, v0, v1, v2, v3, v4, v5, v6, v7, v8, v9, v10, v11, v13, v12]
    clear v0 v1 v2 v3 v4 v5 v6 v7 v8 v9 v10 v11 v13 v12
    obtain ⟨⟨A2, c2, rfl⟩, hG⟩ := hF
    have HG2 := Lib.hid hG
    clear hG
    go_wp2_with fail
    go_roundw
    case rel => exact ⟨j + 1, _, by omega, by go_num, HG2.out⟩
    case measure => simp [intOf]; omega
  obtain rfl : j = fr.length := by omega
  clear hG z5
  have x0 := HG.out.cell (f := 0) (u := .int .i64 0) rfl
  have x1 := HG.out.cell (f := 1) (u := .slice none 0 0) rfl
  have x2 := HG.out.cell (f := 2) (u := .slice none 0 0) rfl
  have x3 := HG.out.cell (f := 3) (u := .int .i64 0) rfl
  have x4 := HG.out.cell (f := 4) (u := .slice AO outs.length cO) rfl
  have x5 := HG.out.cell (f := 5) (u := .slice AI fr.length cI) rfl
  have hRW := (HG.out.k.block w.heap.size (by have := (Array.getElem?_eq_some_iff.1 HRN.out).1; exact this) (by omega)).trans HRN.out
  obtain ⟨z0, z1, z2, z3, z4, z5, f0, f1, f2, f3, f4, f5⟩ := row6f hRW
  clear hRW
  go_wp2_with fail
  have hf := fin6 HBN.out HRN.out (by omega) HG.out
  (try simp only [Exit.inBlock, Exit.then])
  refine bodyPost_ret (rcell2 rfl _ _ w.heap.size _ _ _ _ rfl hf.1 Tryz.underlying31 rfl (by kernel_rfl)) rfl ?_
  exact ⟨_, rfl, (by first | (rw [← HOUT.out]; rfl) | (rw [if_pos rfl, ← HOUT.out]; rfl)), hf.2⟩

end Go.Proofs.YtijkdpdmclkmlaaGreatDoor
