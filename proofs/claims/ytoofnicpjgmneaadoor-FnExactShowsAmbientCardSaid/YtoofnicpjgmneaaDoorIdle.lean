/- Idle nodes of a process of ambients: program and reference walked. -/
import Derived.Test.YtoofnicpjgmneaaDoorProg
import Derived.Test.YtoofnicpjgmneaaDoorIsProcL
set_option linter.unusedVariables false
namespace Go.Proofs.YtoofnicpjgmneaaDoor
open Go.RowKit

def idleN (l : List Nd) : Nat → Int → Bool
  | 0, _ => false
  | n + 1, k => if decide (k < 0) then false else if (ndAt l k.toNat).1 != 0 then true else idleN l n (ndAt l k.toNat).2.2

theorem idleN_neg (l : List Nd) (n : Nat) (k : Int) (h : k < 0) : idleN l n k = false := by
  cases n with
  | zero => rfl
  | succ n => unfold idleN; simp [h]

/-- A parent is before its node. -/
def Before (l : List Nd) : Prop := ∀ i, i < l.length → -1 ≤ (ndAt l i).2.2 ∧ (ndAt l i).2.2 < i

theorem before_from : ∀ (l : List Nd) (k : Nat), goodFrom k l = true → ∀ (i : Nat) (x : Nd), l[i]? = some x → -1 ≤ x.2.2 ∧ x.2.2 < (k + i : Nat)
  | [], _, _, _, _, h => by simp at h
  | y :: r, k, hg, 0, x, h => by
    simp at h
    subst h
    simp only [goodFrom, goodN, Bool.and_eq_true] at hg
    have := inB_true hg.1.2
    omega
  | y :: r, k, hg, i + 1, x, h => by
    simp only [goodFrom, Bool.and_eq_true] at hg
    have := before_from r (k + 1) hg.2 i x (by simpa using h)
    omega
theorem before_good {l : List Nd} (h : procB l = true) : Before l := fun i hi => by
  unfold procB at h
  simp only [Bool.and_eq_true] at h
  have := before_from l 0 h.1 i _ (List.getElem?_eq_getElem hi)
  have e : ndAt l i = l[i] := by simp [ndAt, List.getD, hi]
  rw [e]
  omega

set_option maxHeartbeats 400000 in
theorem isNode_any (v : Value) (l : List Nd) (k : Int) (w : World) (hv : RProc w v l) (hn : l.length ≤ 16777216) :
    Calls Tryd.prog 23 #[v, .int .i64 k] w fun e w' => e = .returned (.bool (inB k 0 ((l.length : Int) - 1))) ∧ Below w.heap.size w w' := by
  obtain ⟨sv, rfl, hsv⟩ := hv
  obtain ⟨A, c, rfl, _⟩ := hsv.form
  go_enter Tryd.func23, Tryd.ntmps23
  go_wp2_with ((with_reducible refine (within_any ..).mono ?_); rintro e w' ⟨rfl, rfl⟩)
  go_ret
  exact ⟨rfl, (Below.refl _ _).alloc (Nat.le_refl _) _⟩

set_option maxHeartbeats 400000 in
theorem l12Has_any (v : Value) (l : List Nd) (k : Int) (w : World) (hv : RProc w v l) (hn : l.length ≤ 16777216) :
    Calls Tryd.prog 21 #[v, .int .i64 k] w fun e w' => e = .returned (.bool (inB k 0 ((l.length : Int) - 1))) ∧ Below w.heap.size w w' := by
  obtain ⟨sv, rfl, hsv⟩ := hv
  obtain ⟨A, c, rfl, _⟩ := hsv.form
  go_enter Tryd.func21, Tryd.ntmps21
  go_wp2_with ((with_reducible refine (l1In_any ..).mono ?_); rintro e w' ⟨rfl, rfl⟩)
  go_ret
  exact ⟨rfl, (Below.refl _ _).alloc (Nat.le_refl _) _⟩

set_option maxRecDepth 100000 in
set_option maxHeartbeats 1000000 in
theorem isIdleNode_any (v : Value) (l : List Nd) (nd : Nat) (w : World) (hv : RProc w v l) (hn : l.length ≤ 16777216) (hd : nd < l.length) (hb : Before l) :
    Calls Tryd.prog 24 #[v, .int .i64 nd] w fun e w' => e = .returned (.bool (idleN l l.length (ndAt l nd).2.2)) ∧ Below w.heap.size w w' := by
  obtain ⟨sv, rfl, hsv⟩ := hv
  have HV := Lib.hid (show ∀ W, Below w.heap.size w W → RSl RN 3 W sv l from fun W hb => hsv.below RN_keep hb)
  obtain ⟨A, c, rfl, hm⟩ := hsv.form
  clear hsv hm
  have hal : ∀ o, Below w.heap.size w (w.alloc o) := fun o => (Below.refl _ _).alloc (Nat.le_refl _) o
  have HX : ∀ i (h : i < l.length), ndAt l i = l[i] := fun i h => by simp [ndAt, List.getD, h]
  have hp0 := hb nd hd
  obtain ⟨b, o, c', cs, ev, hcl, hcr, hc⟩ := (HV.out w (Below.refl _ _)).at_ (by omega) (List.getElem?_eq_getElem hd)
  cases ev
  rw [HX nd hd] at hp0 ⊢
  generalize hxx : l[nd] = x at *
  subst hcr
  have k2 : ∀ ob, (w.alloc ob).cell? ⟨b, o + nd * 3 + 2, none⟩ = some (.int .i64 x.2.2) := fun ob => by
    have := hc 2 _ rfl
    rw [← Nat.add_assoc] at this
    exact cell_below (hal ob) this (lt_of_cell this)
  clear hc hcl
  go_enter Tryd.func24, Tryd.ntmps24
  go_wp2_with fail
  go_loop [5] (fun i => ∃ (k : Int) (f : Nat), i = .int .i64 k ∧ -1 ≤ k ∧ k < l.length ∧ k < f ∧ idleN l l.length x.2.2 = idleN l f k)
    (fun i => (intOf i + 1).toNat)
  case atStart => exact ⟨_, l.length, rfl, by omega, by omega, by omega, rfl⟩
  case round =>
    obtain ⟨k, f, rfl, hk0, hk1, hkf, hE⟩ := hrel
    have q0 := cell_of_row (w.alloc (.cells #[.slice (some ⟨b, o, none⟩) l.length c] 29)) w.heap.size 0 _ _ _ (heap_alloc_new _ _)
    by_cases hk : k < 0
    · rw [idleN_neg l f k hk] at hE
      have HE := Lib.hid hE
      clear hE
      go_wp2_with fail
      go_ret
      exact ⟨by rw [HE.out]; rfl, hal _⟩
    · obtain ⟨m, rfl⟩ := Int.eq_ofNat_of_zero_le (show 0 ≤ k by omega)
      have hm : m < l.length := by omega
      obtain ⟨f', rfl⟩ : ∃ f', f = f' + 1 := ⟨f - 1, by omega⟩
      have hbm := hb m hm
      have hE2 : idleN l (f' + 1) (m : Int) = if (ndAt l m).1 != 0 then true else idleN l f' (ndAt l m).2.2 := by
        have h0 : ¬ ((m : Int) < 0) := by omega
        rw [idleN, decide_eq_false h0]
        simp only [Bool.false_eq_true, if_false, Int.toNat_natCast]
      rw [hE2, HX m hm] at hE
      rw [HX m hm] at hbm
      clear hE2
      obtain ⟨b', o', d', cs', ev, hdl, hdr, hd'⟩ := (HV.out _ (hal (.cells #[.slice (some ⟨b, o, none⟩) l.length c] 29))).at_ (by omega) (List.getElem?_eq_getElem hm)
      cases ev
      generalize l[m] = y at *
      subst hdr
      have j0 := hd' 0 _ rfl
      have j2 := hd' 2 _ rfl
      rw [Nat.add_zero] at j0
      rw [← Nat.add_assoc] at j2
      have b0 : (0 : Int) ≤ (m : Int) := by omega
      have HBB := Lib.hid hb
      clear hd' hdl hb k2
      cases hy : (y.1 != 0)
      · rw [hy] at hE
        have HE := Lib.hid hE
        clear hE
        go_wp2_with fail
        go_round
        case rel => exact ⟨_, f', rfl, hbm.1, by omega, by omega, HE.out⟩
        case measure => simp [intOf]; omega
      · rw [hy] at hE
        have HE := Lib.hid hE
        clear hE
        go_wp2_with fail
        go_ret
        exact ⟨by rw [HE.out]; rfl, hal _⟩

set_option maxRecDepth 100000 in
set_option maxHeartbeats 1000000 in
theorem l12Idle_any (v : Value) (l : List Nd) (nd : Nat) (w : World) (hv : RProc w v l) (hn : l.length ≤ 16777216) (hd : nd < l.length) (hb : Before l) :
    Calls Tryd.prog 22 #[v, .int .i64 nd] w fun e w' => e = .returned (.bool (idleN l l.length (ndAt l nd).2.2)) ∧ Below w.heap.size w w' := by
  obtain ⟨sv, rfl, hsv⟩ := hv
  have HV := Lib.hid (show ∀ W, Below w.heap.size w W → RSl RN 3 W sv l from fun W hb => hsv.below RN_keep hb)
  obtain ⟨A, c, rfl, hm⟩ := hsv.form
  clear hsv hm
  have hal : ∀ o, Below w.heap.size w (w.alloc o) := fun o => (Below.refl _ _).alloc (Nat.le_refl _) o
  have HX : ∀ i (h : i < l.length), ndAt l i = l[i] := fun i h => by simp [ndAt, List.getD, h]
  have hp0 := hb nd hd
  obtain ⟨b, o, c', cs, ev, hcl, hcr, hc⟩ := (HV.out w (Below.refl _ _)).at_ (by omega) (List.getElem?_eq_getElem hd)
  cases ev
  rw [HX nd hd] at hp0 ⊢
  generalize hxx : l[nd] = x at *
  subst hcr
  have k2 : ∀ ob, (w.alloc ob).cell? ⟨b, o + nd * 3 + 2, none⟩ = some (.int .i64 x.2.2) := fun ob => by
    have := hc 2 _ rfl
    rw [← Nat.add_assoc] at this
    exact cell_below (hal ob) this (lt_of_cell this)
  clear hc hcl
  go_enter Tryd.func22, Tryd.ntmps22
  go_wp2_with fail
  go_loop [1] (fun i => ∃ (k : Int) (f : Nat), i = .int .i64 k ∧ -1 ≤ k ∧ k < l.length ∧ k < f ∧ idleN l l.length x.2.2 = idleN l f k)
    (fun i => (intOf i + 1).toNat)
  case atStart => exact ⟨_, l.length, rfl, by omega, by omega, by omega, rfl⟩
  case round =>
    obtain ⟨k, f, rfl, hk0, hk1, hkf, hE⟩ := hrel
    have q0 := cell_of_row (w.alloc (.cells #[.slice (some ⟨b, o, none⟩) l.length c] 29)) w.heap.size 0 _ _ _ (heap_alloc_new _ _)
    by_cases hk : k < 0
    · rw [idleN_neg l f k hk] at hE
      have HE := Lib.hid hE
      clear hE
      go_wp2_with fail
      go_ret
      exact ⟨by rw [HE.out]; rfl, hal _⟩
    · obtain ⟨m, rfl⟩ := Int.eq_ofNat_of_zero_le (show 0 ≤ k by omega)
      have hm : m < l.length := by omega
      obtain ⟨f', rfl⟩ : ∃ f', f = f' + 1 := ⟨f - 1, by omega⟩
      have hbm := hb m hm
      have hE2 : idleN l (f' + 1) (m : Int) = if (ndAt l m).1 != 0 then true else idleN l f' (ndAt l m).2.2 := by
        have h0 : ¬ ((m : Int) < 0) := by omega
        rw [idleN, decide_eq_false h0]
        simp only [Bool.false_eq_true, if_false, Int.toNat_natCast]
      rw [hE2, HX m hm] at hE
      rw [HX m hm] at hbm
      clear hE2
      obtain ⟨b', o', d', cs', ev, hdl, hdr, hd'⟩ := (HV.out _ (hal (.cells #[.slice (some ⟨b, o, none⟩) l.length c] 29))).at_ (by omega) (List.getElem?_eq_getElem hm)
      cases ev
      generalize l[m] = y at *
      subst hdr
      have j0 := hd' 0 _ rfl
      have j2 := hd' 2 _ rfl
      rw [Nat.add_zero] at j0
      rw [← Nat.add_assoc] at j2
      have b0 : (0 : Int) ≤ (m : Int) := by omega
      have HBB := Lib.hid hb
      clear hd' hdl hb k2
      cases hy : (y.1 != 0)
      · rw [hy] at hE
        have HE := Lib.hid hE
        clear hE
        go_wp2_with fail
        go_round
        case rel => exact ⟨_, f', rfl, hbm.1, by omega, by omega, HE.out⟩
        case measure => simp [intOf]; omega
      · rw [hy] at hE
        have HE := Lib.hid hE
        clear hE
        go_wp2_with fail
        go_ret
        exact ⟨by rw [HE.out]; rfl, hal _⟩

end Go.Proofs.YtoofnicpjgmneaaDoor
