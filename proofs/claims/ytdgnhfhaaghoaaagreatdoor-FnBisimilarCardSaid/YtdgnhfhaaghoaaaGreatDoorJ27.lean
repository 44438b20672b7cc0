/- Systems: the program's states in which ways from a state end, walked (of a system, its states' number and its steps alone). The teller's function literals; slices.ContainsFunc at numbers: walked. append of a whole row of numbers, nil or not, to a row of its own. IsFormula of the program and of the reference, and the statement that they agree: the walk of the law. Which states satisfy a formula: program walked. Labelled systems: the formula that tells two states apart is one, the first state satisfies it, and the second one does not. Plain law. The reference's conjunction of formulas: walked. -/
import Derived.Test.YtdgnhfhaaghoaaaGreatDoorProg
import Derived.Test.YtdgnhfhaaghoaaaGreatDoorJ26
import Derived.Test.YtdgnhfhaaghoaaaGreatDoorJ2
import Derived.Test.YtdgnhfhaaghoaaaGreatDoorJ10
import Derived.Test.YtdgnhfhaaghoaaaGreatDoorJ23
import Derived.Test.YtdgnhfhaaghoaaaGreatDoorJ9
import Derived.Test.YtdgnhfhaaghoaaaGreatDoorJ7
import Derived.Test.YtdgnhfhaaghoaaaGreatDoorJ5
import Derived.Test.YtdgnhfhaaghoaaaGreatDoorJ0
import Derived.Test.YtdgnhfhaaghoaaaGreatDoorJ13
import Derived.Test.YtdgnhfhaaghoaaaGreatDoorJ3
set_option linter.unusedSimpArgs false
set_option linter.unusedVariables false
namespace Go.Proofs.YtdgnhfhaaghoaaaGreatDoor
open Go.RowKit

theorem contains_q (A : Option Addr) (c : Nat) (xs : List Int) (d : Int) (w : World) (hn : xs.length ≤ 16777216) (hA : Cells w A (ints xs)) :
    Calls Tryz.prog 139 #[.slice A xs.length c, .int .i64 d] w fun e w' => e = .returned (.bool (hasI xs d)) ∧ w' = w :=
  (contains_any A c xs d w hn hA).mono fun _ _ ⟨a, b⟩ => ⟨a, b.symm⟩
theorem owns_of_row {w : World} {g n : Nat} {e : TypeId} {xs : List Value} (h : w.heap[g]? = some (.cells xs.toArray e)) (hl : xs.length = n) (hm : n ≤ maxLen) : w.ownsRow g e 1 (.slice (some ⟨g, 0, none⟩) n n) n xs :=
  ⟨by omega, .inr ⟨g, n, _, rfl, Nat.le_refl _, h, Nat.le_refl _, hm, by simp [hl], by rw [Nat.mul_one, ← hl, List.take_length]⟩⟩

theorem fold_add_next {v : Int} {ss : List I3} {o : List Int} {k : Nat} (h : k < ss.length) : (ss.take (k + 1)).foldl (addStep v) o = addStep v ((ss.take k).foldl (addStep v) o) ss[k] := by
  rw [List.take_succ_eq_append_getElem h, List.foldl_append]
  rfl
theorem fold_add_take {v : Int} {ss : List I3} {o : List Int} (k : Nat) : (ss.take k).foldl (addStep v) o <+: ss.foldl (addStep v) o := by
  conv => rhs; rw [← List.take_append_drop k ss, List.foldl_append]
  exact fold_add_prefix _ _ _

theorem hbel2 {B g : Nat} {a w w' : World} (hb : Below B a w) (hg : w.grownBy w' (some g)) (h : B ≤ g) (hB : B ≤ w.heap.size) : Below B a w' :=
  hb.grown hg hB (fun q hq => by cases hq; exact h)

set_option maxRecDepth 100000 in
set_option maxHeartbeats 16000000 in
theorem reached_any (A : Option Addr) (c : Nat) (tv : Value) (sn : Nat) (ss : List I3) (p : Nat) (w : World) (hn : ss.length ≤ 16777216) (hsn : sn ≤ 40) (HST0 : StepsN sn ss) (hp : p < sn) (htv : RA3 w tv ss) :
    Calls Tryz.prog 182 #[.agg #[.slice A sn c, tv], .int .i64 p] w fun e w' => ∃ r, e = .returned r ∧ w'.ownsRow w.heap.size 3 1 r (reachR ss p sn).length (ints (reachR ss p sn)) ∧ Below w.heap.size w w' := by
  obtain ⟨i0, hi, hz0, hz1, hz2⟩ := info_parts info_ci
  have HST := Lib.hid HST0
  have htv' := htv
  obtain ⟨B, d, rfl, _, _⟩ := htv
  have HV := Lib.hid (show ∀ W, Below w.heap.size w W → RA3 W (.slice B ss.length d) ss from fun W hb => htv'.below hb)
  have HLEN := Lib.hid (fun k => bfs_len HST.out hp k)
  have HPM := Lib.hid (fun k => bfs_p ss (p : Int) k)
  have HDONE := Lib.hid (fun i o h1 h2 h3 => reach_sort (i := i) (o := o) HST.out hp h1 h2 h3)
  clear htv' HST0
  have hbox := heap_alloc_new w (.cells #[.slice A sn c, .slice B ss.length d] 162)
  have hrow := heap_alloc_new (w.alloc (.cells #[.slice A sn c, .slice B ss.length d] 162)) (.cells #[.int .i64 (p : Int)] 3)
  rw [World.size_alloc] at hrow
  have HOWN := Lib.hid (owns_of_row (n := 1) (xs := [.int .i64 (p : Int)]) hrow rfl (by unfold maxLen; omega))
  have HBOX := Lib.hid ((heap_alloc_old (w.alloc (.cells #[.slice A sn c, .slice B ss.length d] 162)) (.cells #[.int .i64 (p : Int)] 3) (by simp)).trans hbox)
  have HB0 := Lib.hid (show Below w.heap.size w ((w.alloc (.cells #[.slice A sn c, .slice B ss.length d] 162)).alloc (.cells #[.int .i64 (p : Int)] 3)) from ((Below.refl _ _).alloc (Nat.le_refl _) _).alloc (by simp) _)
  clear hbox hrow
  go_enter Tryz.func182, Tryz.ntmps182
  go_wp2_with fail
  go_loopw [5, 6] (fun u i wr => ∃ k : Nat, i = .int .i64 k ∧ k ≤ (bfsAt ss p k).length ∧ wr.ownsRow (w.heap.size + 1) 3 1 u (bfsAt ss p k).length (ints (bfsAt ss p k)) ∧ Below w.heap.size w wr ∧ wr.heap[w.heap.size]? = some (.cells #[.slice A sn c, .slice B ss.length d] 162))
    (fun _ i _ => sn + 1 - (intOf i).toNat)
  case atStart => exact ⟨0, rfl, Nat.zero_le _, HOWN.out, HB0.out, HBOX.out⟩
  case round =>
    clear HOWN HB0 HBOX
    obtain ⟨k, rfl, hk, hown, hbel, hbx⟩ := hrel
    obtain ⟨AO, cO, rfl, hown⟩ := owns_form hown
    have hlen := HLEN.out k
    by_cases hlt : k < (bfsAt ss p k).length
    · have HNX := Lib.hid (show bfsAt ss p (k + 1) = ss.foldl (addStep ((bfsAt ss p k).getD k 0)) (bfsAt ss p k) by rw [bfsAt, if_pos hlt])
      have HLN := Lib.hid (HLEN.out (k + 1))
      have HK1 := Lib.hid (show k + 1 ≤ (bfsAt ss p (k + 1)).length from Nat.le_trans hlt (bfs_prefix ss (p : Int) k).length_le)
      have p1 := cell_of_row wr w.heap.size 1 _ _ _ hbx
      have HO := Lib.hid hown
      have HB := Lib.hid hbel
      have HBX := Lib.hid hbx
      clear hown hbel hbx
      generalize heq : bfsAt ss p (k + 1) = o' at *
      have HEQ := Lib.hid heq
      clear heq
      generalize bfsAt ss p k = o at *
      go_wp2_with fail
      go_loopw [5, 20] (fun u i wr => ∃ j : Nat, j ≤ ss.length ∧ i = .int .i64 j ∧ wr.ownsRow (w.heap.size + 1) 3 1 u ((ss.take j).foldl (addStep (o.getD k 0)) o).length (ints ((ss.take j).foldl (addStep (o.getD k 0)) o)) ∧ Below w.heap.size w wr ∧ wr.heap[w.heap.size]? = some (.cells #[.slice A sn c, .slice B ss.length d] 162))
        (fun _ i _ => ss.length - (intOf i).toNat)
      case atStart => exact ⟨0, Nat.zero_le _, rfl, HO.out, HB.out, HBX.out⟩
      case round =>
        clear HO HB HBX p1
        obtain ⟨j, hj, rfl, hown, hbel, hbx⟩ := hrel
        obtain ⟨AO, cO, rfl, hown⟩ := owns_form hown
        have hsz := hbel.size
        by_cases hjl : j < ss.length
        · obtain ⟨b, oo, c', e, h0, h1, h2⟩ := (HV.out wr hbel).at_ (List.getElem?_eq_getElem hjl)
          cases e
          have hpre := fold_add_prefix (o.getD k 0) (ss.take j) o
          have hgd := prefix_getD hpre hlt
          have hkl := Nat.lt_of_lt_of_le hlt hpre.length_le
          have hup := (fold_add_take (v := o.getD k 0) (ss := ss) (o := o) j).length_le
          rw [← HNX.out] at hup
          have HN := Lib.hid (fold_add_next (v := o.getD k 0) (o := o) hjl)
          clear hpre
          generalize ss[j] = s at *
          generalize (ss.take j).foldl (addStep (o.getD k 0)) o = cu at *
          generalize o.getD k 0 = vk at *
          obtain ⟨bo, oo', eo, hcu⟩ := (Cells.of_owns hown).int hkl
          have ck := hcu k hkl
          rw [hgd] at ck
          have hA : Below wr.heap.size wr (wr.alloc (.cells #[.int .i64 s.1, .int .i64 s.2.1, .int .i64 s.2.2] 103)) := (Below.refl _ _).alloc (Nat.le_refl _) _
          have ck := cell_below hA ck (lt_of_cell ck)
          have HOA := Lib.hid (hown.alloc (.cells #[.int .i64 s.1, .int .i64 s.2.1, .int .i64 s.2.2] 103))
          have HBA := Lib.hid (hbel.trans (hA.mono hbel.size))
          have HBXA := Lib.hid ((hA.block w.heap.size (Array.getElem?_eq_some_iff.1 hbx).1).trans hbx)
          have HC := Lib.hid (Cells.of_owns HOA.out)
          have q0 : (wr.alloc (.cells #[.int .i64 s.1, .int .i64 s.2.1, .int .i64 s.2.2] 103)).cell? ⟨wr.heap.size, 0, none⟩ = some (.int .i64 s.1) := cell_of_row _ _ _ _ _ _ (heap_alloc_new _ _)
          have q2 : (wr.alloc (.cells #[.int .i64 s.1, .int .i64 s.2.1, .int .i64 s.2.2] 103)).cell? ⟨wr.heap.size, 2, none⟩ = some (.int .i64 s.2.2) := cell_of_row _ _ _ _ _ _ (heap_alloc_new _ _)
          have hwz : w.heap.size < wr.heap.size := (Array.getElem?_eq_some_iff.1 hbx).1
          have HLT := Lib.hid (fun q hq => hown.lt q hq)
          have b0 : (0 : Int) ≤ (j : Int) := by omega
          have b1 : (j : Int) < (ss.length : Int) := by omega
          have b2 : (0 : Int) ≤ (k : Int) := by omega
          have b3 : (k : Int) < (cu.length : Int) := by omega
          clear hown hbel hbx hA hcu hgd
          subst eo
          have HSM := Lib.hid (show cu.length ≤ 16777216 by have := HLN.out; omega)
          have HOn := Lib.hid (fun m => show ((wr.alloc (.cells #[.int .i64 s.1, .int .i64 s.2.1, .int .i64 s.2.2] 103)).drewN m).ownsRow (w.heap.size + 1) 3 1 (.slice (some ⟨bo, oo', none⟩) cu.length cO) cu.length (ints cu) from HOA.out)
          have HBn := Lib.hid (fun m => below_drewN' HBA.out m)
          have HXn := Lib.hid (fun m => show ((wr.alloc (.cells #[.int .i64 s.1, .int .i64 s.2.1, .int .i64 s.2.2] 103)).drewN m).heap[w.heap.size]? = _ from HBXA.out)
          have HCO := Lib.hid (fun W hA => contains_q (some ⟨bo, oo', none⟩) cO cu s.2.2 W HSM.out hA)
          cases hp1 : (s.1 == vk)
          · have HSAME := Lib.hid (show addStep vk cu s = cu by unfold addStep; rw [hp1, Bool.false_and, if_neg Bool.false_ne_true])
            go_wp2_with fail
            go_quiet (fail)
            go_wp2_with fail
            go_roundw
            case rel => exact ⟨j + 1, by omega, by go_num, by rw [HN.out, HSAME.out]; exact HOA.out, HBn.out _, HBXA.out⟩
            case measure => simp [intOf]; omega
          · cases hp2 : hasI cu s.2.2
            case true =>
              have HSAME := Lib.hid (show addStep vk cu s = cu by unfold addStep; rw [show cu.contains s.2.2 = true from hp2, hp1]; rfl)
              rw [hp2] at HCO
              clear hp2
              go_wp2_with fail
              go_quiet ((exact Calls.quiet_of_same (HCO.out _ HC.out)))
              go_wp2_with fail
              go_roundw
              case rel => exact ⟨j + 1, by omega, by go_num, by rw [HN.out, HSAME.out]; exact HOA.out, HBn.out _, HBXA.out⟩
              case measure => simp [intOf]; omega
            have HADD := Lib.hid (show addStep vk cu s = cu ++ [s.2.2] by unfold addStep; rw [show cu.contains s.2.2 = false from hp2, hp1]; rfl)
            rw [hp2] at HCO
            clear hp2
            go_wp2_with fail
            go_quiet ((exact Calls.quiet_of_same (HCO.out _ HC.out)))
            go_wp2_with (at_builtin; refine wpList_append_own _ rfl _ _ 30 rfl (w.heap.size + 1) 3 i0 (.int .i64 0) 1 8 Tryz.underlying30 hi hz0 hz1 hz2 rfl (by decide) _ _ _ rfl ((HOn.out _).alloc _) ⟨wr.heap.size + 1, 0, none⟩ 1 1 [.int .i64 s.2.2] rfl rfl ?c1 ?c2 ?c3 ?c4 ?c5 ?_)
            case c1 => exact new_cell1 _ _ _ (by show (wr.alloc _).heap.size = _; simp)
            case c2 => intro u hu; simp at hu; subst hu; rfl
            case c3 => have := HLN.out; unfold maxLen; omega
            case c4 => have := HLN.out; omega
            case c5 => simp; omega
            intro v2 w2 hown2 hgrow2 _
            have hints : ints cu ++ [.int .i64 s.2.2] = ints ((ss.take (j + 1)).foldl (addStep vk) o) := by rw [HN.out, HADD.out]; simp [ints]
            have hlen2 : cu.length + 1 = ((ss.take (j + 1)).foldl (addStep vk) o).length := by rw [HN.out, HADD.out]; simp
            rw [hints, hlen2] at hown2
            have HO2 := Lib.hid hown2
            have HG2 := Lib.hid (((HBn.out _).alloc (by simp; omega) _).grown hgrow2 (by simp; omega) (fun q hq => by have := (HLT.out q hq).1; omega))
            have HBX2 := Lib.hid ((hgrow2.block w.heap.size (by simp; omega) (fun e => by have := (HLT.out _ e.symm).1; omega)).trans ((heap_alloc_old _ _ (by simp; omega)).trans (HXn.out _)))
            clear hown2 hgrow2 hints hlen2
            go_wp2_with fail
            go_roundw
            case rel => exact ⟨j + 1, by omega, by go_num, HO2.out, HG2.out, HBX2.out⟩
            case measure => simp [intOf]; omega
        · obtain rfl : j = ss.length := by omega
          rw [List.take_length, ← HNX.out] at hown
          rw [List.take_length, ← HNX.out]
          have HO := Lib.hid hown
          have HB := Lib.hid hbel
          have HBX := Lib.hid hbx
          clear hown hbel hbx
          go_wp2_with fail
          go_roundw
          case rel => exact ⟨k + 1, by go_num, by rw [HEQ.out]; exact HK1.out, by rw [HEQ.out]; exact HO.out, HB.out, HBX.out⟩
          case measure => simp [intOf]; omega
    · have hkl : k = (bfsAt ss p k).length := by omega
      have hdone := fun o h2 h3 => HDONE.out k o hkl h2 h3
      have hmem := HPM.out k
      have HD := Lib.hid hdone
      clear hdone hkl
      generalize bfsAt ss p k = o at *
      have hb0 := hown.2
      rcases hb0 with ⟨e, h0⟩ | ⟨g, cap, cur, e, _⟩
      · rw [List.eq_nil_of_length_eq_zero h0] at hmem
        cases hmem
      cases e
      have HO := Lib.hid hown
      have HB := Lib.hid hbel
      have HL := Lib.hid hlen
      clear hown hbel hbx hmem hlen
      go_wp2_with fail
      refine (sortI_any g cO o (w.heap.size + 1) wr (by have := HL.out; omega) HO.out).mono ?_
      rintro e w2 ⟨rfl, ho2, hg2⟩
      have hst : (o.mergeSort fun x y => decide (x ≤ y)).Pairwise (· ≤ ·) := by
        have := List.pairwise_mergeSort (le := fun x y : Int => decide (x ≤ y)) (fun a b c h1 h2 => by simp at *; omega) (fun a b => by simp; omega) o
        exact this.imp (fun h => by simpa using h)
      have he := HD.out _ hst (List.mergeSort_perm _ _)
      have hl : o.length = (reachR ss p sn).length := by
        have := congrArg List.length he
        rw [List.length_mergeSort] at this
        exact this
      rw [he] at ho2
      have HL2 := Lib.hid hl
      have HO2 := Lib.hid ho2
      have HB2 := Lib.hid (hbel2 HB.out hg2 (by have := (HO.out.lt g rfl).1; omega) HB.out.size)
      clear ho2 hg2 hst he hl
      go_wp2_with fail
      go_ret
      refine ⟨_, rfl, ?_, HB2.out⟩
      have := owns_mono HO2.out (Nat.le_succ _)
      rw [HL2.out] at this
      rw [HL2.out]
      exact this

end Go.Proofs.YtdgnhfhaaghoaaaGreatDoor

set_option linter.unusedVariables false
namespace Go.Proofs.YtdgnhfhaaghoaaaGreatDoor
open Go.RowKit

set_option maxRecDepth 100000 in
set_option maxHeartbeats 1000000 in
theorem indexFuncI_any (A : Option Addr) (c : Nat) (xs : List Int) (F : FuncId) (cap : Array Value) (p : Nat → Bool) (w : World) (hn : xs.length ≤ 16777216) (hA : Cells w A (ints xs))
    (hF : ∀ (args : Array Value) (w : World), (callFunc F args).run Tryz.prog w = .ok (.enter F args) w)
    (hcall : ∀ (k : Nat) (W : World), k < xs.length → Below w.heap.size w W → Calls Tryz.prog F (#[.int .i64 (xs.getD k 0)] ++ cap) W fun e W' => e = .returned (.bool (p k)) ∧ Below W.heap.size W W') :
    Calls Tryz.prog 173 #[.slice A xs.length c, .func (.func F) #[] cap] w fun e w' => e = .returned (.int .i64 (idxR xs.length p)) ∧ Below w.heap.size w w' := by
  have HC := Lib.hid hcall
  clear hcall
  go_enter Tryz.func173, Tryz.ntmps173
  go_wp2_with fail
  go_loopw [8] (fun i wr => ∃ k : Nat, k ≤ xs.length ∧ i = .int .i64 k ∧ (∀ j, j < k → p j = false) ∧ Below w.heap.size w wr)
    (fun i _ => xs.length - (intOf i).toNat)
  case atStart => exact ⟨0, Nat.zero_le _, rfl, fun j hj => by omega, Below.refl _ _⟩
  case round =>
    obtain ⟨k, hk, rfl, hall, hbel⟩ := hrel
    have HALL := Lib.hid hall
    clear hall
    by_cases hlt : k < xs.length
    · obtain ⟨b, o, rfl, hc⟩ := (hA.below hbel).int hlt
      have hck := hc k hlt
      have H := Lib.hid (HC.out k wr hlt hbel)
      have HB := Lib.hid hbel
      clear hc hA hbel
      generalize xs.getD k 0 = y at *
      cases hp : p k
      · have HN := Lib.hid (none_next HALL.out hp)
        rw [hp] at H
        clear hp
        go_wp2_with ((with_reducible refine H.out.mono ?_); rintro e w1 ⟨rfl, hb1⟩)
        go_roundw
        case rel => exact ⟨k + 1, by omega, by go_num, HN.out, HB.out.trans (hb1.mono HB.out.size)⟩
        case measure => simp [intOf]; omega
      · have HE := Lib.hid (idxR_some hlt HALL.out hp)
        rw [hp] at H
        clear hp
        go_wp2_with ((with_reducible refine H.out.mono ?_); rintro e w1 ⟨rfl, hb1⟩)
        go_ret
        exact ⟨by rw [HE.out]; rfl, HB.out.trans (hb1.mono HB.out.size)⟩
    · obtain rfl : k = xs.length := by omega
      have HE := Lib.hid (idxR_none HALL.out)
      go_wp2
      go_ret
      exact ⟨by rw [HE.out]; rfl, hbel⟩

set_option maxHeartbeats 1000000 in
theorem containsFuncI_any (A : Option Addr) (c : Nat) (xs : List Int) (F : FuncId) (cap : Array Value) (p : Nat → Bool) (w : World) (hn : xs.length ≤ 16777216) (hA : Cells w A (ints xs))
    (hF : ∀ (args : Array Value) (w : World), (callFunc F args).run Tryz.prog w = .ok (.enter F args) w)
    (hcall : ∀ (k : Nat) (W : World), k < xs.length → Below w.heap.size w W → Calls Tryz.prog F (#[.int .i64 (xs.getD k 0)] ++ cap) W fun e W' => e = .returned (.bool (p k)) ∧ Below W.heap.size W W') :
    Calls Tryz.prog 129 #[.slice A xs.length c, .func (.func F) #[] cap] w fun e w' => e = .returned (.bool (anyR xs.length p)) ∧ Below w.heap.size w w' := by
  have H := Lib.hid (indexFuncI_any A c xs F cap p w hn hA hF hcall)
  have HI := Lib.hid (idxR_any xs.length p)
  clear hF hcall hA
  go_enter Tryz.func129, Tryz.ntmps129
  go_wp2_with ((with_reducible refine H.out.mono ?_); rintro e w1 ⟨rfl, hb1⟩)
  go_ret
  exact ⟨by rw [← HI.out]; rfl, hb1⟩

end Go.Proofs.YtdgnhfhaaghoaaaGreatDoor

set_option linter.unusedVariables false
namespace Go.Proofs.YtdgnhfhaaghoaaaGreatDoor
open Go.RowKit

theorem Kept.newer {S T : Nat → Prop} {w w5 w6 : World} (h : Kept S w w5) (k : Kept T w5 w6) (hT : ∀ q, T q → w.heap.size ≤ q) : Kept S w w6 :=
  ⟨k.os.trans h.os, k.tape.trans h.tape, k.output.trans h.output, Nat.le_trans h.size k.size, fun b hb hn => (k.block b (Nat.lt_of_lt_of_le hb h.size) (fun e => by have := hT b e; omega)).trans (h.block b hb hn)⟩

end Go.Proofs.YtdgnhfhaaghoaaaGreatDoor

set_option linter.unusedVariables false
namespace Go.Proofs.YtdgnhfhaaghoaaaGreatDoor
open Go.RowKit

theorem sameI_refl (xs : List Int) : sameI xs xs = true := by simp [sameI]

end Go.Proofs.YtdgnhfhaaghoaaaGreatDoor

set_option linter.unusedVariables false
namespace Go.Proofs.YtdgnhfhaaghoaaaGreatDoor
open Go.RowKit

abbrev bools (bs : List Bool) : List Value := bs.map Value.bool

theorem info_bool : (Tryz.prog.info? 4).map (fun i => (i.zero, i.size, i.bytes)) = some (some (.bool false), 1, 1) := by kernel_rfl

theorem fill_start (n : Nat) (res : List Bool) (h : res.length = n) : (madeCells (Value.bool false).cells (n * 1)).toList = bools (fillV res false 0) := by
  show (madeCells #[_] _).toList = _
  rw [toList_madeCells_one, Nat.mul_one, fillV_zero, h]
  simp

theorem fill_step {wr : World} {B0 g n k : Nat} {e : TypeId} {res : List Bool} {x : Bool} (hown : wr.ownsRow B0 e 1 (.slice (some ⟨g, 0, none⟩) n n) n (bools (fillV res false k))) (hl : res.length = n) (hk : k < n) (hx : res[k]? = some x) :
    wr.cell? ⟨g, k, none⟩ = some (.bool false) ∧ wr.frozen? ⟨g, k, none⟩ = false ∧ (wr.setCell ⟨g, k, none⟩ (.bool x)).ownsRow B0 e 1 (.slice (some ⟨g, 0, none⟩) n n) n (bools (fillV res false (k + 1))) := by
  have hcell := hown.cellAt k (by omega)
  have hv : (bools (fillV res false k))[k]? = some (.bool false) := by
    have e1 : bools (fillV res false k) = bools (res.take k) ++ bools (List.replicate (res.length - k) false) := by simp [fillV, bools]
    rw [e1, List.getElem?_append_right (by simp; omega), List.getElem?_map, List.getElem?_replicate, if_pos (by simp; omega)]
    rfl
  rw [hv] at hcell
  refine ⟨hcell, hown.frozenAt k, ?_⟩
  have hst := (hown.stored k (.bool x)).1
  have e2 : (bools (fillV res false k)).set k (.bool x) = bools (fillV res false (k + 1)) := by
    rw [← fillV_set res false x k (by omega) hx]
    simp [List.map_set]
  rwa [e2] at hst

theorem fill_end {res : List Bool} {n : Nat} (h : res.length = n) : bools (fillV res false n) = bools res := by rw [fillV_all' h]

end Go.Proofs.YtdgnhfhaaghoaaaGreatDoor

set_option linter.unusedVariables false
namespace Go.Proofs.YtdgnhfhaaghoaaaGreatDoor

theorem last_stable (l : Lab) (h0 : 1 ≤ l.shows.length) : partsL l (l.shows.length + 1) = lastL l := by
  by_cases h : ∃ m, m ≤ l.shows.length ∧ partsL l (m + 1) = partsL l m
  · obtain ⟨m, hm, e⟩ := h
    rw [parts_stay l e _ (by omega)]
    exact (parts_stay l e _ hm).symm
  · have := rounds_le l h0 (k := l.shows.length) fun j hj e => h ⟨j, by omega, e⟩
    omega

/-- What a well-formed labelled system gives. -/
structure GoodL (l : Lab) : Prop where
  some_ : 1 ≤ l.shows.length
  steps : ∀ s ∈ l.steps, ∃ i j : Nat, s.1 = (i : Int) ∧ s.2.2 = (j : Int) ∧ i < l.shows.length ∧ j < l.shows.length
  acts : ∀ s ∈ l.steps, 0 ≤ s.2.1 ∧ s.2.1 < 8
  marks : ∀ i, i < l.shows.length → (l.shows.getD i []).Pairwise (· < ·) ∧ ∀ x ∈ l.shows.getD i [], 0 ≤ x ∧ x < 8

end Go.Proofs.YtdgnhfhaaghoaaaGreatDoor

set_option linter.unusedVariables false
namespace Go.Proofs.YtdgnhfhaaghoaaaGreatDoor
open Go.RowKit

/-- Rows behind an address, all of them in blocks below N. -/
def Lists (w : World) (N : Nat) (A : Option Addr) (xss : List (List Int)) : Prop :=
  ∃ vs : List Value, vs.length = xss.length ∧ Cells w A vs ∧ ∀ (i : Nat) v xs, vs[i]? = some v → xss[i]? = some xs → w.ownsRow 0 3 1 v xs.length (ints xs) ∧ ∀ q, v.ownBlock = some q → q < N
theorem Lists.below {w w' : World} {N : Nat} {A : Option Addr} {xss : List (List Int)} (h : Lists w N A xss) (hb : Below w.heap.size w w') : Lists w' N A xss := by
  obtain ⟨vs, h1, h2, h3⟩ := h
  exact ⟨vs, h1, h2.below hb, fun i v xs a b => ⟨owns_below (h3 i v xs a b).1 hb (Nat.le_refl _), (h3 i v xs a b).2⟩⟩
theorem Lists.head {w : World} {N : Nat} {A : Option Addr} {x : List Int} {xss : List (List Int)} (h : Lists w N A (x :: xss)) : ∃ b o Ax cx, A = some ⟨b, o, none⟩ ∧ w.cell? ⟨b, o, none⟩ = some (.slice Ax x.length cx) ∧ w.ownsRow 0 3 1 (.slice Ax x.length cx) x.length (ints x) ∧ ∀ q, (Value.slice Ax x.length cx).ownBlock = some q → q < N := by
  obtain ⟨vs, h1, h2, h3⟩ := h
  cases vs with
  | nil => simp at h1
  | cons v vs =>
    obtain ⟨b, o, e, hc⟩ := h2 0 v rfl
    obtain ⟨h4, h5⟩ := h3 0 v x rfl rfl
    obtain ⟨Ax, cx, rfl, h4⟩ := owns_form h4
    exact ⟨b, o, Ax, cx, e, hc, h4, h5⟩

section
variable {w W W' : World} {N : Nat} {x G : List Int} {b0 b4 b7 b8 : Bool} {bb : Nat} {v1 r v2 : Value}
end

end Go.Proofs.YtdgnhfhaaghoaaaGreatDoor
