/- Elements of the reference: ions, atoms, merges: walked. -/
import Derived.Test.YtijkdpdmclkmlaaGreatDoorProg
import Derived.Test.YtijkdpdmclkmlaaGreatDoorJ0
import Derived.Test.YtijkdpdmclkmlaaGreatDoorJ21
import Derived.Test.YtijkdpdmclkmlaaGreatDoorJ3
import Derived.Test.YtijkdpdmclkmlaaGreatDoorJ16
import Derived.Test.YtijkdpdmclkmlaaGreatDoorJ24
import Derived.BigQuiet
import Derived.Test.YtijkdpdmclkmlaaGreatDoorJ17
import Derived.Test.YtijkdpdmclkmlaaGreatDoorJ10
import Derived.Test.YtijkdpdmclkmlaaGreatDoorJ7
set_option linter.unusedSimpArgs false
set_option linter.unusedVariables false
set_option maxRecDepth 100000
set_option maxHeartbeats 16000000
namespace Go.Proofs.YtijkdpdmclkmlaaGreatDoor
open Go.RowKit
def allNamesB (l : List ByteArray) : Bool := allR l.length fun i => nameB (l.getD i default)
def ionB (sig : List Ct) (c : Int) (names : List ByteArray) : Bool := sigB sig && inB c 0 ((sig.length : Int) - 1) && ((names.length : Int) == portsA sig c) && allNamesB names

theorem l3AllNames_any (A : Option Addr) (c : Nat) (l : List ByteArray) (w : World) (hl : l.length ≤ 1000) (hz : ∀ s ∈ l, s.size ≤ 1000) (hA : Cells w A (strs l)) :
  Calls Tryz.prog 122 #[.slice A l.length c] w fun e w' => e = .returned (.bool (allNamesB l)) ∧ w' = w := by
 have HN := Lib.hid (show ∀ k, k < l.length → (l.getD k default).size ≤ maxLen from fun k hk => by have := hz (l.getD k default) (by simp [List.getD, hk]); unfold maxLen; omega)
 have HPT := Lib.hid (show allNamesB l = allR l.length (fun i => nameB (l.getD i default)) from rfl)
 go_enter Tryz.func122, Tryz.ntmps122
 go_wp2_with fail
 go_loop [3] (fun i => ∃ k : Nat, k ≤ l.length ∧ i = .int .i64 k ∧ ∀ j, j < k → nameB (l.getD j default) = true) (fun i => l.length - (intOf i).toNat)
 case atStart => exact ⟨0, Nat.zero_le _, rfl, fun j hj => by omega⟩
 obtain ⟨k, hk, rfl, hall⟩ := hrel
 have HALL := Lib.hid hall
 clear hall
 by_cases hlt : k < l.length
 ·obtain ⟨b, o, rfl, hc⟩ := hA.str hlt
  have k0 := hc k hlt
  have HC := Lib.hid (fun w => l2Name_q (l.getD k default) w (HN.out k hlt))
  have HF := Lib.hid (show nameB (l.getD k default) = false → allNamesB l = false from fun h => by rw [HPT.out, allR_false hlt h])
  have HNX := Lib.hid (show nameB (l.getD k default) = true → ∀ j, j < k + 1 → nameB (l.getD j default) = true from fun h => all_next HALL.out h)
  clear hc hA
  generalize l.getD k default = s at *
  cases hn : nameB s
  ·have HFF := Lib.hid (HF.out hn)
   rw [hn] at HC
   clear hn
   go_wp2_with ((with_reducible refine (HC.out _).mono ?_); rintro e w' ⟨rfl, rfl⟩)
   go_ret
   exact ⟨by rw [HFF.out]; rfl, rfl⟩
  have HNN := Lib.hid (HNX.out hn)
  rw [hn] at HC
  clear hn
  go_wp2_with ((with_reducible refine (HC.out _).mono ?_); rintro e w' ⟨rfl, rfl⟩)
  go_round
  case rel => exact ⟨k + 1, by omega, by go_num, HNN.out⟩
  case measure => simp [intOf]; omega
 obtain rfl : k = l.length := by omega
 have HE := Lib.hid (show allNamesB l = true from by rw [HPT.out, allR_true HALL.out])
 go_wp2_with fail
 go_ret
 exact ⟨by rw [HE.out]; rfl, rfl⟩

theorem l3Ion_any (sig : List Ct) (ct : Int) (A : Option Addr) (c : Nat) (names : List ByteArray) (gv : Value) (w : World) (hz : SmallS sig) (hl : names.length ≤ 1000) (hn : ∀ s ∈ names, s.size ≤ 1000) (hS : RSl RCt 3 w gv sig) (hA : Cells w A (strs names)) :
  Calls Tryz.prog 115 #[gv, .int .i64 ct, .slice A names.length c] w fun e w' => e = .returned (.bool (ionB sig ct names)) ∧ Below w.heap.size w w' := by
 have HS := Lib.hid (show ∀ W, Below w.heap.size w W → RSl RCt 3 W gv sig from fun W hb => hS.below RCt_keep hb)
 have HC1 := Lib.hid (l2Sig_any gv sig w hz hS)
 have HC4 := Lib.hid (show ∀ W, Below w.heap.size w W → Calls Tryz.prog 122 #[.slice A names.length c] W _ from fun W hb => l3AllNames_any A c names W hl hn (hA.below hb))
 have HQ := Lib.hid l1In_any
 have hsl := hz.len
 have HPT := Lib.hid (show ionB sig ct names = (sigB sig && inB ct 0 ((sig.length : Int) - 1) && ((names.length : Int) == portsA sig ct) && allNamesB names) from rfl)
 obtain ⟨AG, cG, rfl, _⟩ := hS.form
 clear hS hA hn hz
 cases c0 : (sigB sig)
 ·have HE := Lib.hid (show ionB sig ct names = false from by rw [HPT.out, c0]; first | done | rfl)
  rw [c0] at HC1
  go_enter Tryz.func115, Tryz.ntmps115
  go_wp2_with fail
  (with_reducible refine HC1.out.mono ?_)
  rintro e w1 ⟨rfl, hb⟩
  have HZ := Lib.hid hb
  clear hb
  go_wp2_with fail
  go_ret
  exact ⟨by first | rfl | (rw [HE.out]; done) | (rw [HE.out]; rfl), HZ.out⟩
 cases c1 : (inB ct 0 ((sig.length : Int) - 1))
 ·have HE := Lib.hid (show ionB sig ct names = false from by rw [HPT.out, c0, c1]; first | done | rfl)
  rw [c0] at HC1
  have hin : ∀ w, Calls Tryz.prog 93 #[.int .i64 ct, .int .i64 0, .int .i64 ((sig.length : Int) - 1)] w fun e w' => e = .returned (.bool false) ∧ w = w' := fun w => by have h := HQ.out ct 0 ((sig.length : Int) - 1) w; rw [c1] at h; exact h
  have HIN := Lib.hid hin
  clear hin
  go_enter Tryz.func115, Tryz.ntmps115
  go_wp2_with fail
  (with_reducible refine HC1.out.mono ?_)
  rintro e w1 ⟨rfl, hb⟩
  have HZ := Lib.hid hb
  clear hb
  go_wp2_with (first | ((with_reducible refine (HIN.out _).mono ?_); rintro e w' ⟨rfl, rfl⟩))
  go_ret
  exact ⟨by first | rfl | (rw [HE.out]; done) | (rw [HE.out]; rfl), HZ.out⟩
 cases c2 : ((names.length : Int) == portsA sig ct)
 ·have HE := Lib.hid (show ionB sig ct names = false from by rw [HPT.out, c0, c1, c2]; first | done | rfl)
  rw [c0] at HC1
  have hin : ∀ w, Calls Tryz.prog 93 #[.int .i64 ct, .int .i64 0, .int .i64 ((sig.length : Int) - 1)] w fun e w' => e = .returned (.bool true) ∧ w = w' := fun w => by have h := HQ.out ct 0 ((sig.length : Int) - 1) w; rw [c1] at h; exact h
  have HIN := Lib.hid hin
  clear hin
  obtain ⟨z0, z1⟩ := inB_true c1
  obtain ⟨m, rfl⟩ := Int.eq_ofNat_of_zero_le z0
  have hml : m < sig.length := by omega
  have HPO := Lib.hid (show portsA sig (m : Int) = sig[m].2.1 from by unfold portsA; rw [Int.toNat_natCast, ctA_get hml])
  go_enter Tryz.func115, Tryz.ntmps115
  go_wp2_with fail
  (with_reducible refine HC1.out.mono ?_)
  rintro e w1 ⟨rfl, hb⟩
  have HZ := Lib.hid hb
  obtain ⟨b', o', c', eS, _, s1, _⟩ := ct_at (HS.out w1 hb) hml
  cases eS
  have q0 : (0 : Int) ≤ (m : Int) := by omega
  have q1 : (m : Int) < (sig.length : Int) := by omega
  rw [HPO.out] at c2
  obtain ⟨y, hy⟩ : ∃ y, y = sig[m].2.1 := ⟨_, rfl⟩
  rw [← hy] at s1 c2
  clear hy hb
  go_wp2_with (first | ((with_reducible refine (HIN.out _).mono ?_); rintro e w' ⟨rfl, rfl⟩))
  go_ret
  exact ⟨by first | rfl | (rw [HE.out]; done) | (rw [HE.out]; rfl), HZ.out⟩
 cases c3 : (allNamesB names)
 ·have HE := Lib.hid (show ionB sig ct names = false from by rw [HPT.out, c0, c1, c2, c3]; first | done | rfl)
  rw [c0] at HC1
  have hin : ∀ w, Calls Tryz.prog 93 #[.int .i64 ct, .int .i64 0, .int .i64 ((sig.length : Int) - 1)] w fun e w' => e = .returned (.bool true) ∧ w = w' := fun w => by have h := HQ.out ct 0 ((sig.length : Int) - 1) w; rw [c1] at h; exact h
  have HIN := Lib.hid hin
  clear hin
  rw [c3] at HC4
  obtain ⟨z0, z1⟩ := inB_true c1
  obtain ⟨m, rfl⟩ := Int.eq_ofNat_of_zero_le z0
  have hml : m < sig.length := by omega
  have HPO := Lib.hid (show portsA sig (m : Int) = sig[m].2.1 from by unfold portsA; rw [Int.toNat_natCast, ctA_get hml])
  go_enter Tryz.func115, Tryz.ntmps115
  go_wp2_with fail
  (with_reducible refine HC1.out.mono ?_)
  rintro e w1 ⟨rfl, hb⟩
  have HZ := Lib.hid hb
  obtain ⟨b', o', c', eS, _, s1, _⟩ := ct_at (HS.out w1 hb) hml
  cases eS
  have q0 : (0 : Int) ≤ (m : Int) := by omega
  have q1 : (m : Int) < (sig.length : Int) := by omega
  rw [HPO.out] at c2
  obtain ⟨y, hy⟩ : ∃ y, y = sig[m].2.1 := ⟨_, rfl⟩
  rw [← hy] at s1 c2
  clear hy hb
  go_wp2_with (first | ((with_reducible refine (HIN.out _).mono ?_); rintro e w' ⟨rfl, rfl⟩) | ((with_reducible refine (HC4.out _ HZ.out).mono ?_); rintro e w' ⟨rfl, rfl⟩))
  go_ret
  exact ⟨by first | rfl | (rw [HE.out]; done) | (rw [HE.out]; rfl), HZ.out⟩
 have HE := Lib.hid (show ionB sig ct names = true from by rw [HPT.out, c0, c1, c2, c3]; first | done | rfl)
 rw [c0] at HC1
 have hin : ∀ w, Calls Tryz.prog 93 #[.int .i64 ct, .int .i64 0, .int .i64 ((sig.length : Int) - 1)] w fun e w' => e = .returned (.bool true) ∧ w = w' := fun w => by have h := HQ.out ct 0 ((sig.length : Int) - 1) w; rw [c1] at h; exact h
 have HIN := Lib.hid hin
 clear hin
 rw [c3] at HC4
 obtain ⟨z0, z1⟩ := inB_true c1
 obtain ⟨m, rfl⟩ := Int.eq_ofNat_of_zero_le z0
 have hml : m < sig.length := by omega
 have HPO := Lib.hid (show portsA sig (m : Int) = sig[m].2.1 from by unfold portsA; rw [Int.toNat_natCast, ctA_get hml])
 go_enter Tryz.func115, Tryz.ntmps115
 go_wp2_with fail
 (with_reducible refine HC1.out.mono ?_)
 rintro e w1 ⟨rfl, hb⟩
 have HZ := Lib.hid hb
 obtain ⟨b', o', c', eS, _, s1, _⟩ := ct_at (HS.out w1 hb) hml
 cases eS
 have q0 : (0 : Int) ≤ (m : Int) := by omega
 have q1 : (m : Int) < (sig.length : Int) := by omega
 rw [HPO.out] at c2
 obtain ⟨y, hy⟩ : ∃ y, y = sig[m].2.1 := ⟨_, rfl⟩
 rw [← hy] at s1 c2
 clear hy hb
 go_wp2_with (first | ((with_reducible refine (HIN.out _).mono ?_); rintro e w' ⟨rfl, rfl⟩) | ((with_reducible refine (HC4.out _ HZ.out).mono ?_); rintro e w' ⟨rfl, rfl⟩))
 go_ret
 exact ⟨by first | rfl | (rw [HE.out]; done) | (rw [HE.out]; rfl), HZ.out⟩

theorem l3Atom_any (ct : Int) (A : Option Addr) (c : Nat) (names : List ByteArray) (w : World) (hl : names.length ≤ 1000) (hA : Cells w A (strs names)) :
    Calls Tryz.prog 116 #[.int .i64 ct, .slice A names.length c] w fun e w' => ∃ X : BX, e = .returned (.agg X.cells) ∧ X.g = atomG ct names (sortS names) ∧ RG w w' X := by
  have HA := Lib.hid (show ∀ W, Below w.heap.size w W → Cells W A (strs names) from fun W hb => hA.below hb)
  obtain ⟨w0, hw0, hb0, hs0, hR0⟩ := laid1 w (.cells ZB 31)
  have HB0 := Lib.hid hb0
  have HR0 := Lib.hid hR0
  have HC := Lib.hid (l2Sorted_any A c names w0 (by omega) (HA.out w0 hb0))
  have HW0 := Lib.hid (show w.alloc (.cells #[.int .i64 0, .slice none 0 0, .slice none 0 0, .int .i64 0, .slice none 0 0, .slice none 0 0] 31) = w0 from hw0.symm)
  clear hb0 hR0 hw0
  have hol := sortS_len names
  clear hA
  go_enter Tryz.func116, Tryz.ntmps116
  go_wp2_with fail
  rw [HW0.out]
  (with_reducible refine HC.out.mono ?_)
  rintro e w1 ⟨go, co, rfl, hu, hb1⟩
  obtain ⟨outs, ho⟩ : ∃ outs, outs = sortS names := ⟨_, rfl⟩
  rw [← ho] at hu hol
  have HOUT := Lib.hid ho
  have HU := Lib.hid hu
  have HB1 := Lib.hid hb1
  have HCO := Lib.hid (show ∀ W, Below w1.heap.size w1 W → Cells W (some ⟨go, 0, none⟩) (strs outs) from fun W hb => (Cells.of_owns hu).below hb)
  have hsz1 := hb1.size
  rw [← ho]
  clear hu hb1 HC ho
  go_wp2_with fail
  go_loopw [6, 7] (fun v i wr => ∃ k : Nat, k ≤ names.length ∧ i = .int .i64 k ∧ wr.ownsRow w1.heap.size 3 1 v k (ints ((List.range k).map fun i => atS outs (names.getD i default))) ∧ Below w1.heap.size w1 wr)
    (fun v i _ => names.length - (intOf i).toNat)
  case atStart => exact ⟨0, Nat.zero_le _, rfl, made_rowG w1 3, (Below.refl _ _).alloc (Nat.le_refl _) _⟩
  obtain ⟨k, hk, rfl, hown, hbel⟩ := hrel
  obtain ⟨AL, cL, rfl, hown⟩ := owns_form hown
  have HO := Lib.hid hown
  have HBE := Lib.hid hbel
  have hsz := hbel.size
  by_cases hlt : k < names.length
  · have hkb := HB0.out.trans ((HB1.out.trans (hbel.mono HB1.out.size)).mono HB0.out.size)
    obtain ⟨b, o, rfl, hc⟩ := (HA.out wr hkb).str hlt
    have k0 := hc k hlt
    obtain ⟨s, hs⟩ : ∃ s, s = names.getD k default := ⟨_, rfl⟩
    rw [← hs] at k0
    have HSE := Lib.hid hs
    have HAT := Lib.hid (l2At_any (some ⟨go, 0, none⟩) co outs s wr (by omega) (HCO.out wr hbel))
    clear hown hbel hc hs hkb
    go_wp2_with (first | ((with_reducible refine HAT.out.mono ?_); rintro e w' ⟨rfl, rfl⟩) | (at_builtin; refine wpList_app el_intG rfl _ _ rfl w1.heap.size _ _ _ rfl HO.out [.int .i64 (atS outs s)] rfl rfl rfl (one1 rfl) (by omega) hsz ?_; intro v2 w2 ho hk2 hm2))
    have HO2 := Lib.hid (show w2.ownsRow w1.heap.size 3 1 v2 (k + 1) (ints ((List.range (k + 1)).map fun i => atS outs (names.getD i default))) from by rw [rm_succ, ints_app, ← HSE.out]; exact ho)
    have HB2 := Lib.hid (below_kept HBE.out hk2 (fun q hq => (HO.out.lt q hq).1) hsz)
    clear ho hk2 hm2
    go_wp2_with fail
    go_roundw
    case rel => exact ⟨k + 1, by omega, by go_num, HO2.out, HB2.out⟩
    case measure => simp [intOf]; omega
  obtain rfl : k = names.length := by omega
  have hbw : Below w0.heap.size w0 wr := HB1.out.trans (hbel.mono HB1.out.size)
  have hRW := (hbw.block w.heap.size (by omega)).trans HR0.out
  obtain ⟨z0, z1, z2, z3, z4, z5, f0, f1, f2, f3, f4, f5⟩ := row6f hRW
  clear hRW
  have z0' := cell_below ((Below.refl wr.heap.size wr).alloc (Nat.le_refl _) (.cells #[.int .i64 ct, .int .i64 (-1), .slice AL names.length cL] 88)) z0 (lt_of_cell z0)
  have HBW := Lib.hid hbw
  have hlw : w.heap.size < wr.heap.size := by have := hbw.size; omega
  obtain ⟨wq, hwq, hbq, -⟩ := laid1 wr (.cells #[.int .i64 ct, .int .i64 (-1), .slice AL names.length cL] 88)
  have HNODE := Lib.hid (show wq.ownsRow wr.heap.size 88 3 (.slice (some ⟨wr.heap.size, 0, none⟩) 1 1) 1 [.int .i64 ct, .int .i64 (-1), .slice AL names.length cL] from by rw [hwq]; exact ownsNew wr [.int .i64 ct, .int .i64 (-1), .slice AL names.length cL] 88 3 1 rfl (by decide))
  have HBQ := Lib.hid hbq
  have HWQ := Lib.hid hwq
  clear hbw hbq hwq hbel hown z0'
  have z0 := cell_below HBQ.out z0 (lt_of_cell z0)
  have z1 := cell_below HBQ.out z1 (lt_of_cell z1)
  have z2 := cell_below HBQ.out z2 (lt_of_cell z2)
  have z3 := cell_below HBQ.out z3 (lt_of_cell z3)
  have z4 := cell_below HBQ.out z4 (lt_of_cell z4)
  have z5 := cell_below HBQ.out z5 (lt_of_cell z5)
  have hRQ := (HBQ.out.block w.heap.size hlw).trans ((HBW.out.block w.heap.size (by omega)).trans HR0.out)
  clear f0 f1 f2 f3 f4 f5
  have f0 := frozen_of_row wq _ 0 _ _ hRQ
  have f1 := frozen_of_row wq _ 1 _ _ hRQ
  have f2 := frozen_of_row wq _ 2 _ _ hRQ
  have f3 := frozen_of_row wq _ 3 _ _ hRQ
  have f4 := frozen_of_row wq _ 4 _ _ hRQ
  have f5 := frozen_of_row wq _ 5 _ _ hRQ
  clear hRQ
  go_wp2_with (rw [← HWQ.out])
  have hob : OB wq (w.heap.size + 1) ⟨1, 0, .slice (some ⟨wr.heap.size, 0, none⟩) 1 1, nilV, .slice (some ⟨go, 0, none⟩) outs.length co, nilV, [(ct, -1, names.map (atS outs))], [.slice AL names.length cL], [], outs, []⟩ :=
    { N := { own := owns_mono HNODE.out (by omega), len := rfl, dis := fun i j l l' b hij h1 h2 => by
               have := (List.getElem?_eq_some_iff.1 h2).1
               simp at this; omega
             sep := fun i l b _ _ h => by simp [Value.ownBlock] at h
             lk := fun i l x h1 h2 => by
               have hi := (List.getElem?_eq_some_iff.1 h1).1
               have hi0 : i = 0 := by simp at hi; omega
               subst hi0
               simp at h1 h2
               subst h1
               subst h2
               have h3 := owns_mono (owns_below HO.out HBQ.out (Nat.le_refl _)) (show w.heap.size + 1 ≤ w1.heap.size by omega)
               rw [map_getD default (atS outs) names]
               simpa using h3 }
      S := none_row, I := none_row
      O := owns_mono (owns_below (owns_below HU.out HBE.out (Nat.le_refl _)) HBQ.out (Nat.le_refl _)) (by omega) }
  have hf := fin6_of (X := ⟨1, 0, .slice (some ⟨wr.heap.size, 0, none⟩) 1 1, nilV, .slice (some ⟨go, 0, none⟩) outs.length co, nilV, [(ct, -1, names.map (atS outs))], [.slice AL names.length cL], [], outs, []⟩) HB0.out HR0.out (by have := ((Kept.of_below HBW.out (fun q => w.heap.size + 1 ≤ q)).trans (Kept.of_below HBQ.out _)).size; omega) (((Kept.of_below HBW.out (fun q => w.heap.size + 1 ≤ q)).trans (Kept.of_below HBQ.out _))) (hob)
  (try simp only [Exit.inBlock, Exit.then])
  refine bodyPost_ret (results_cell_row rfl _ _ w.heap.size _ _ _ _ rfl hf.1 Tryz.underlying31 rfl (by kernel_rfl)) rfl ?_
  exact ⟨_, rfl, by rw [← HOUT.out]; rfl, hf.2⟩

end Go.Proofs.YtijkdpdmclkmlaaGreatDoor
