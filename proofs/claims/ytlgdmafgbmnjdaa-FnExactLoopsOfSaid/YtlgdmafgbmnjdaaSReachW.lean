/- Systems: the reference's states in which ways from a state end, walked. -/
import Derived.Test.YtlgdmafgbmnjdaaProg
import Derived.Test.YtlgdmafgbmnjdaaSPut
import Derived.Test.YtlgdmafgbmnjdaaSReachI
import Derived.Test.YtlgdmafgbmnjdaaHas
set_option linter.unusedVariables false
namespace Go.Proofs.Ytlgdmafgbmnjdaa
open Go.RowKit
open Go.Sort (grow)

theorem fold_put_next {ss : List I3} {o : List Int} {k : Nat} (h : k < ss.length) : (ss.take (k + 1)).foldl putStep o = putStep ((ss.take k).foldl putStep o) ss[k] := by
  rw [List.take_succ_eq_append_getElem h, List.foldl_append]
  rfl
theorem fold_put_take {ss : List I3} {o : List Int} (k : Nat) : ((ss.take k).foldl putStep o).length ≤ (ss.foldl putStep o).length := by
  conv => rhs; rw [← List.take_append_drop k ss, List.foldl_append]
  exact fold_put_len _ _

/-- A list in memory that is not nil: what the loop over rounds keeps. -/
def NRow (w : World) (B : Nat) (v : Value) (o : List Int) : Prop := ∃ g c, v = .slice (some ⟨g, 0, none⟩) o.length c ∧ o.length ≤ c ∧ w.ownsRow B 3 1 (.slice (some ⟨g, 0, none⟩) o.length c) o.length (ints o)
theorem nrow_of {w : World} {B : Nat} {v : Value} {o : List Int} (h : w.ownsRow B 3 1 v o.length (ints o)) (h0 : 0 < o.length) : NRow w B v o := by
  obtain ⟨A, c, rfl, h⟩ := owns_form h
  rcases h.2 with ⟨e, h1⟩ | ⟨g, cap, cur, e, hb, hg, h1, h2, h3, h4⟩
  · omega
  · cases e
    exact ⟨g, c, rfl, h1, h⟩
theorem nrow_below {w w' : World} {B : Nat} {v : Value} {o : List Int} (h : NRow w B v o) (hb : Below w.heap.size w w') : NRow w' B v o := by
  obtain ⟨g, c, rfl, h1, h⟩ := h
  exact ⟨g, c, rfl, h1, owns_below h hb (Nat.le_refl _)⟩

set_option maxRecDepth 100000 in
set_option maxHeartbeats 8000000 in
theorem l10Reach_any (v : Value) (l : Sys) (p : Nat) (w : World) (hs : SmallSys l) (hg : goodSys l = true) (hp : p < l.states.length) (hv : RSys w v l) :
    Calls Try.prog 59 #[v, .int .i64 p] w fun e w' => ∃ r, e = .returned r ∧ w'.ownsRow w.heap.size 3 1 r (reachL l p).length (ints (reachL l p)) ∧ Below w.heap.size w w' := by
  obtain ⟨l1, l2⟩ := good_len hg
  have HST := Lib.hid (show StepsN l.states.length l.steps from good_steps hg)
  obtain ⟨sv, tv, rfl, hsv, htv⟩ := hv
  have hn := hs.2
  obtain ⟨A, c, rfl, _⟩ := hsv.form
  have htv' := htv
  obtain ⟨B, d, rfl, _, _⟩ := htv
  have HV := Lib.hid (show ∀ W, Below w.heap.size w W → RA3 W (.slice B l.steps.length d) l.steps from fun W hb => htv'.below hb)
  have HLEN := Lib.hid (fun k => reachR_len HST.out hp k)
  have HSRT := Lib.hid (fun k => reachR_sorted l.steps (p : Int) k)
  have HPM := Lib.hid (fun k => show 0 < (reachR l.steps (p : Int) k).length from List.length_pos_of_mem (reachR_p l.steps (p : Int) k))
  have HNXR := Lib.hid (fun k => show reachR l.steps (p : Int) (k + 1) = l.steps.foldl putStep (reachR l.steps p k) from rfl)
  have HRL := Lib.hid (show reachL l (p : Int) = reachR l.steps (p : Int) l.states.length from rfl)
  clear htv' hsv hs hg
  have hbox := heap_alloc_new w (.cells #[.slice A l.states.length c, .slice B l.steps.length d] 32)
  have hrow := heap_alloc_new (w.alloc (.cells #[.slice A l.states.length c, .slice B l.steps.length d] 32)) (.cells #[.int .i64 (p : Int)] 3)
  rw [World.size_alloc] at hrow
  have HOWN := Lib.hid (show NRow _ (w.heap.size + 1) (.slice (some ⟨w.heap.size + 1, 0, none⟩) 1 1) (reachR l.steps (p : Int) 0) from nrow_of (o := [(p : Int)]) (owns_of_row (n := 1) (xs := [.int .i64 (p : Int)]) hrow rfl (by unfold maxLen; omega)) (by simp))
  have HBOX := Lib.hid ((heap_alloc_old (w.alloc (.cells #[.slice A l.states.length c, .slice B l.steps.length d] 32)) (.cells #[.int .i64 (p : Int)] 3) (by simp)).trans hbox)
  have HB0 := Lib.hid (show Below w.heap.size w ((w.alloc (.cells #[.slice A l.states.length c, .slice B l.steps.length d] 32)).alloc (.cells #[.int .i64 (p : Int)] 3)) from ((Below.refl _ _).alloc (Nat.le_refl _) _).alloc (by simp) _)
  clear hbox hrow
  go_enter Try.func59, Try.ntmps59
  go_wp2_with fail
  go_loopw [5, 6] (fun u i wr => ∃ k : Nat, k ≤ l.states.length ∧ i = .int .i64 k ∧ NRow wr (w.heap.size + 1) u (reachR l.steps p k) ∧ Below w.heap.size w wr ∧ wr.heap[w.heap.size]? = some (.cells #[.slice A l.states.length c, .slice B l.steps.length d] 32))
    (fun _ i _ => l.states.length - (intOf i).toNat)
  case atStart => exact ⟨0, Nat.zero_le _, rfl, HOWN.out, HB0.out, HBOX.out⟩
  case round =>
    clear HOWN HB0 HBOX
    obtain ⟨k, hk, rfl, hown, hbel, hbx⟩ := hrel
    have hlen := HLEN.out k
    have p0 := cell_of_row wr w.heap.size 0 _ _ _ hbx
    have p1 := cell_of_row wr w.heap.size 1 _ _ _ hbx
    have HBX := Lib.hid hbx
    have HB := Lib.hid hbel
    by_cases hlt : k < l.states.length
    · have HN1 := Lib.hid (HNXR.out k)
      have HL1 := Lib.hid (HLEN.out (k + 1))
      have HS1 := Lib.hid (HSRT.out k)
      have HP1 := Lib.hid (HPM.out k)
      have HO := Lib.hid hown
      clear hbel hbx hown hlen
      generalize heq : reachR l.steps (p : Int) (k + 1) = o' at *
      have HEQ := Lib.hid heq
      clear heq
      generalize reachR l.steps (p : Int) k = o at *
      go_wp2_with fail
      go_loopw [5, 7] (fun u i wr => ∃ j : Nat, j ≤ l.steps.length ∧ i = .int .i64 j ∧ NRow wr (w.heap.size + 1) u ((l.steps.take j).foldl putStep o) ∧ Below w.heap.size w wr ∧ wr.heap[w.heap.size]? = some (.cells #[.slice A l.states.length c, .slice B l.steps.length d] 32))
        (fun _ i _ => l.steps.length - (intOf i).toNat)
      case atStart => exact ⟨0, Nat.zero_le _, rfl, HO.out, HB.out, HBX.out⟩
      case round =>
        clear HO HB HBX p0 p1
        obtain ⟨j, hj, rfl, hown, hbel, hbx⟩ := hrel
        obtain ⟨g, cg, rfl, hcap, hown⟩ := hown
        have p0 := cell_of_row wr w.heap.size 0 _ _ _ hbx
        have p1 := cell_of_row wr w.heap.size 1 _ _ _ hbx
        have HBX := Lib.hid hbx
        have HB := Lib.hid hbel
        have HO := Lib.hid hown
        by_cases hjl : j < l.steps.length
        · obtain ⟨b, oo, c', e, h0, h1, h2⟩ := (HV.out wr hbel).at_ (List.getElem?_eq_getElem hjl)
          cases e
          have hup := fold_put_take (ss := l.steps) (o := o) j
          rw [← HN1.out] at hup
          have hlo := fold_put_len (l.steps.take j) o
          have hlo0 : 0 < ((l.steps.take j).foldl putStep o).length := Nat.lt_of_lt_of_le HP1.out hlo
          have HSR := Lib.hid (fold_put_sorted (l.steps.take j) HS1.out)
          have HN := Lib.hid (fold_put_next (o := o) hjl)
          have hL1 := HL1.out
          have b0 : (0 : Int) ≤ (j : Int) := by omega
          have b1 : (j : Int) < (l.steps.length : Int) := by omega
          clear hlo hbel hbx hown
          generalize l.steps[j] = s at *
          generalize (l.steps.take j).foldl putStep o = cu at *
          have HC := Lib.hid (Cells.of_owns HO.out)
          have HH := Lib.hid (l1Has_any (some ⟨g, 0, none⟩) cg cu s.1 wr (by omega) HC.out)
          cases hh : hasI cu s.1
          · have HSAME := Lib.hid (show putStep cu s = cu by unfold putStep; rw [show cu.contains s.1 = false from hh]; rfl)
            rw [hh] at HH
            clear hh
            go_wp2_with ((with_reducible refine HH.out.mono ?_); rintro e w2 ⟨rfl, rfl⟩)
            go_roundw
            case rel => exact ⟨j + 1, by omega, by go_num, by rw [HN.out, HSAME.out]; exact ⟨g, cg, rfl, hcap, HO.out⟩, HB.out, HBX.out⟩
            case measure => simp [intOf]; omega
          · have HPUT := Lib.hid (show putStep cu s = putI cu s.2.2 by unfold putStep; rw [show cu.contains s.1 = true from hh]; rfl)
            rw [hh] at HH
            clear hh
            have HPI := Lib.hid (l1Put_any g cg cu s.2.2 wr (by omega) hcap HSR.out HC.out)
            go_wp2_with ((with_reducible refine HH.out.mono ?_); rintro e w2 ⟨rfl, rfl⟩)
            refine HPI.out.mono ?_
            rintro e w2 ⟨r, rfl, hr, hw2⟩
            have HR := Lib.hid (show NRow w2 (w.heap.size + 1) r ((l.steps.take (j + 1)).foldl putStep o) by
              rw [HN.out, HPUT.out]
              rcases hr with ⟨rfl, e⟩ | hr
              · rw [e]
                exact nrow_below ⟨g, cg, rfl, hcap, HO.out⟩ hw2
              · refine nrow_of (owns_mono hr ?_) (by have := putI_len (l := cu) (x := s.2.2); split at this <;> omega)
                exact (Array.getElem?_eq_some_iff.1 HBX.out).1)
            have HB2 := Lib.hid (HB.out.trans (hw2.mono HB.out.size))
            have HX2 := Lib.hid ((hw2.block w.heap.size (Array.getElem?_eq_some_iff.1 HBX.out).1).trans HBX.out)
            clear hr hw2
            go_wp2_with fail
            go_roundw
            case rel => exact ⟨j + 1, by omega, by go_num, HR.out, HB2.out, HX2.out⟩
            case measure => simp [intOf]; omega
        · obtain rfl : j = l.steps.length := by omega
          have HR := Lib.hid (show NRow wr (w.heap.size + 1) (.slice (some ⟨g, 0, none⟩) ((l.steps.take l.steps.length).foldl putStep o).length cg) o' by
            rw [HN1.out]
            have := hown
            rw [List.take_length] at this hcap ⊢
            exact ⟨g, cg, rfl, hcap, this⟩)
          clear hown hbel hbx hcap HO
          go_wp2_with fail
          go_roundw
          case rel => exact ⟨k + 1, by omega, by go_num, by rw [HEQ.out]; exact HR.out, HB.out, HBX.out⟩
          case measure => simp [intOf]; omega
    · obtain rfl : k = l.states.length := by omega
      obtain ⟨g, cg, rfl, hcap, hown⟩ := hown
      rw [← HRL.out] at hown ⊢
      have HO := Lib.hid hown
      clear hown hbel hbx hlen
      go_wp2_with fail
      go_ret
      exact ⟨_, rfl, owns_mono HO.out (Nat.le_succ _), HB.out⟩

end Go.Proofs.Ytlgdmafgbmnjdaa
