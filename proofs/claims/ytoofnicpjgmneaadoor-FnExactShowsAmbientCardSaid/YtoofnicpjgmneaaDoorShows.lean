/- Ambients that a process shows: program and reference walked. -/
import Derived.Test.YtoofnicpjgmneaaDoorProg
import Derived.Test.YtoofnicpjgmneaaDoorIdleL
import Derived.Test.YtoofnicpjgmneaaDoorIdxN
set_option linter.unusedVariables false
namespace Go.Proofs.YtoofnicpjgmneaaDoor
open Go.RowKit

def showsN (name : ByteArray) (x : Nd) : Bool := (x.2.2 == -1) && (x.1 == 0) && (x.2.1.toList == name.toList)
def showsP (l : List Nd) (name : ByteArray) (k : Nat) : Bool := showsN name (ndAt l k)

theorem ndAt_eq (l : List Nd) (i : Nat) (h : i < l.length) : ndAt l i = l[i] := by simp [ndAt, List.getD, h]

set_option maxRecDepth 100000 in
set_option maxHeartbeats 1000000 in
theorem l12Shows_any (v : Value) (l : List Nd) (name : ByteArray) (w : World) (hv : RProc w v l) (hn : l.length ≤ 16777216) :
    Calls Tryd.prog 26 #[v, .string name] w fun e w' => e = .returned (.bool (anyR l.length (showsP l name))) ∧ Below w.heap.size w w' := by
  obtain ⟨sv, rfl, hsv⟩ := hv
  have HV := Lib.hid (show ∀ W, Below w.heap.size w W → RSl RN 3 W sv l from fun W hb => hsv.below RN_keep hb)
  obtain ⟨A, c, rfl, hm⟩ := hsv.form
  clear hsv hm
  go_enter Tryd.func26, Tryd.ntmps26
  go_wp2
  go_loopw [5] (fun i wr => ∃ k : Nat, k ≤ l.length ∧ i = .int .i64 k ∧ (∀ j, j < k → showsP l name j = false) ∧ Below w.heap.size w wr ∧ wr.heap[w.heap.size]? = some (.cells #[.slice A l.length c] 29))
    (fun i _ => l.length - (intOf i).toNat)
  case atStart => exact ⟨0, Nat.zero_le _, rfl, fun j hj => by omega, (Below.refl _ _).alloc (Nat.le_refl _) _, heap_alloc_new _ _⟩
  case round =>
    obtain ⟨k, hk, rfl, hall, hbel, hbox⟩ := hrel
    have HALL := Lib.hid hall
    clear hall
    have q0 := cell_of_row wr _ 0 _ _ _ hbox
    by_cases hlt : k < l.length
    · obtain ⟨b, o, c', cs, ev, hcl, hcr, hc⟩ := (HV.out wr hbel).at_ (by omega) (List.getElem?_eq_getElem hlt)
      cases ev
      have HE := Lib.hid (show showsP l name k = showsN name l[k] by unfold showsP; rw [ndAt_eq l k hlt])
      generalize l[k] = x at *
      subst hcr
      obtain ⟨kd, nm, pa⟩ := x
      have k0 := hc 0 _ rfl
      have k1 := hc 1 _ rfl
      have k2 := hc 2 _ rfl
      rw [Nat.add_zero] at k0
      rw [← Nat.add_assoc] at k1 k2
      simp only at k0 k1 k2
      have HB := Lib.hid (hbel.alloc hbel.size (.cells #[.int .i64 kd, .string nm, .int .i64 pa] 41))
      have HBX := Lib.hid (show (wr.alloc (.cells #[.int .i64 kd, .string nm, .int .i64 pa] 41)).heap[w.heap.size]? = _ from (heap_alloc_old _ _ (Array.getElem?_eq_some_iff.1 hbox).1).trans hbox)
      clear hc hcl hbel hbox
      cases hp : showsP l name k
      · have HN := Lib.hid (none_next HALL.out hp)
        rw [hp] at HE
        unfold showsN at HE
        by_cases h1 : pa = -1
        · subst h1
          by_cases h2 : kd = 0
          · subst h2
            have g3 : (nm.toList == name.toList) = false := HE.out.symm
            clear HE hp
            go_wp2_with fail
            go_roundw
            case rel => exact ⟨k + 1, by omega, by go_num, HN.out, HB.out, HBX.out⟩
            case measure => simp [intOf]; omega
          · have g2 : (kd == 0) = false := by simpa using h2
            clear HE hp
            go_wp2_with fail
            go_roundw
            case rel => exact ⟨k + 1, by omega, by go_num, HN.out, HB.out, HBX.out⟩
            case measure => simp [intOf]; omega
        · have g1 : (pa == -1) = false := by simpa using h1
          clear HE hp
          go_wp2_with fail
          go_roundw
          case rel => exact ⟨k + 1, by omega, by go_num, HN.out, HB.out, HBX.out⟩
          case measure => simp [intOf]; omega
      · have HA := Lib.hid (show anyR l.length (showsP l name) = true by unfold anyR; rw [List.any_eq_true]; exact ⟨k, List.mem_range.2 hlt, hp⟩)
        rw [hp] at HE
        unfold showsN at HE
        have h3 := HE.out.symm
        simp only [Bool.and_eq_true, beq_iff_eq] at h3
        obtain ⟨⟨h1, h2⟩, h3⟩ := h3
        have g3 : (nm.toList == name.toList) = true := by rw [beq_iff_eq]; exact h3
        subst h1 h2
        clear HE hp h3
        go_wp2_with fail
        go_ret
        exact ⟨by rw [HA.out]; rfl, HB.out⟩
    · obtain rfl : k = l.length := by omega
      have HA := Lib.hid (show anyR l.length (showsP l name) = false by unfold anyR; rw [List.any_eq_false]; intro x hx; rw [HALL.out x (List.mem_range.1 hx)]; simp)
      go_wp2_with fail
      go_ret
      exact ⟨by rw [HA.out]; rfl, hbel⟩

set_option maxRecDepth 100000 in
set_option maxHeartbeats 1000000 in
theorem showsClosure_any (x : Nd) (name : ByteArray) (a : Nat) (w : World) (hc : w.cell? ⟨a, 0, none⟩ = some (.string name)) :
    Calls Tryd.prog 34 #[.agg #[.int .i64 x.1, .string x.2.1, .int .i64 x.2.2], .pointer (some ⟨a, 0, none⟩)] w fun e w' => e = .returned (.bool (showsN name x)) ∧ Below w.heap.size w w' := by
  obtain ⟨kd, nm, pa⟩ := x
  have hal : ∀ ob, Below w.heap.size w (w.alloc ob) := fun ob => (Below.refl _ _).alloc (Nat.le_refl _) ob
  have hc2 : ∀ ob, (w.alloc ob).cell? ⟨a, 0, none⟩ = some (.string name) := fun ob => cell_below (hal ob) hc (lt_of_cell hc)
  clear hc
  unfold showsN
  by_cases h1 : pa = -1
  · subst h1
    have g1 : ((-1 : Int) == -1) = true := rfl
    by_cases h2 : kd = 0
    · subst h2
      have g2 : ((0 : Int) == 0) = true := rfl
      simp only [g1, g2, Bool.true_and]
      go_enter Tryd.func34, Tryd.ntmps34
      go_wp2_with fail
      go_ret
      exact ⟨rfl, hal _⟩
    · have g2 : (kd == 0) = false := by simpa using h2
      simp only [g1, g2, Bool.true_and, Bool.false_and]
      go_enter Tryd.func34, Tryd.ntmps34
      go_wp2_with fail
      go_ret
      exact ⟨rfl, hal _⟩
  · have g1 : (pa == -1) = false := by simpa using h1
    simp only [g1, Bool.false_and]
    go_enter Tryd.func34, Tryd.ntmps34
    go_wp2_with fail
    go_ret
    exact ⟨rfl, hal _⟩

set_option maxRecDepth 100000 in
set_option maxHeartbeats 1000000 in
theorem shows_any (v : Value) (l : List Nd) (name : ByteArray) (w : World) (hv : RProc w v l) (hn : l.length ≤ 16777216) :
    Calls Tryd.prog 27 #[v, .string name] w fun e w' => e = .returned (.bool (anyR l.length (showsP l name))) ∧ Below w.heap.size w w' := by
  obtain ⟨sv, rfl, hsv⟩ := hv
  have HV := Lib.hid (show ∀ W, Below w.heap.size w W → RSl RN 3 W sv l from fun W hb => hsv.below RN_keep hb)
  obtain ⟨A, c, rfl, hm⟩ := hsv.form
  clear hsv hm
  go_enter Tryd.func27, Tryd.ntmps27
  go_wp2_with fail
  have hal : ∀ o1 o2, Below w.heap.size w ((w.alloc o1).alloc o2) := fun o1 o2 => ((Below.refl _ _).alloc (Nat.le_refl _) o1).alloc (by simp) o2
  refine (containsFuncN_any (.slice A l.length c) l 34 #[.pointer (some ⟨w.heap.size + 1, 0, none⟩)] (showsP l name) _ hn (HV.out _ (hal _ _)) (enter_of Tryd.func34 (by kernel_rfl) (by kernel_rfl)) (fun k x W h1 h2 => ?_)).mono ?_
  · have e : showsP l name k = showsN name x := by
      have hk := (List.getElem?_eq_some_iff.1 h1)
      unfold showsP
      rw [ndAt_eq l k hk.1, hk.2]
    rw [e]
    exact showsClosure_any x name (w.heap.size + 1) W (cell_of_row _ _ 0 _ _ _ (two_boxes h2).2.1)
  · rintro e w1 ⟨rfl, hb⟩
    go_wp2_with fail
    go_ret
    exact ⟨rfl, (hal _ _).trans (hb.mono (hal _ _).size)⟩

end Go.Proofs.YtoofnicpjgmneaaDoor
