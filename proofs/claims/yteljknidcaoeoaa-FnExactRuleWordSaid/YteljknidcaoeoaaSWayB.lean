/- Systems: ways, walked. -/
import Derived.Test.YteljknidcaoeoaaProg
import Derived.Test.YteljknidcaoeoaaSWay
import Derived.Lib.QuietBelow
set_option linter.unusedVariables false
namespace Go.Proofs.Yteljknidcaoeoaa
open Go.RowKit
open Go.Sort (grow)

set_option maxHeartbeats 1000000 in
theorem containsT_any (v : Value) (l : List I3) (t : I3) (w : World) (hn : l.length ≤ 16777216) (hv : RA3 w v l) :
    Calls Try.prog 85 #[v, .agg #[.int .i64 t.1, .int .i64 t.2.1, .int .i64 t.2.2]] w fun e w' => e = .returned (.bool (hasT l t)) ∧ Below w.heap.size w w' := by
  have hb1 : ∀ o, Below w.heap.size w (w.alloc o) := fun o => (Below.refl _ _).alloc (Nat.le_refl _) o
  have H := Lib.hid (fun o => indexT_any v l t (w.alloc o) hn (hv.below (hb1 o)))
  have HB := Lib.hid hb1
  obtain ⟨A, c, rfl, _, _⟩ := hv
  clear hb1
  obtain ⟨t1, t2, t3⟩ := t
  go_enter Try.func85, Try.ntmps85
  go_wp2_with fail
  refine (H.out _).mono ?_
  rintro e w1 ⟨⟨k, rfl, hk⟩, hb⟩
  have HK := Lib.hid hk
  clear hk
  go_wp2_with fail
  go_ret
  exact ⟨by rw [← HK.out]; rfl, (HB.out _).trans (hb.mono (HB.out _).size)⟩

set_option maxRecDepth 100000 in
set_option maxHeartbeats 4000000 in
theorem l10Has_any (v : Value) (l : Sys) (t : I3) (w : World) (hs : SmallSys l) (hv : RSys w v l) :
    Calls Try.prog 82 #[v, .agg #[.int .i64 t.1, .int .i64 t.2.1, .int .i64 t.2.2]] w fun e w' => e = .returned (.bool (hasT l.steps t)) ∧ Below w.heap.size w w' := by
  obtain ⟨sv, tv, rfl, hsv, htv⟩ := hv
  have hn := hs.2
  obtain ⟨A, c, rfl, _⟩ := hsv.form
  have htv' := htv
  obtain ⟨B, d, rfl, _, _⟩ := htv
  have HV := Lib.hid (show ∀ W, Below w.heap.size w W → RA3 W (.slice B l.steps.length d) l.steps from fun W hb => htv'.below hb)
  clear htv' hsv hs
  obtain ⟨t1, t2, t3⟩ := t
  go_enter Try.func82, Try.ntmps82
  go_wp2_with fail
  go_loopw [5] (fun i wr => ∃ k : Nat, k ≤ l.steps.length ∧ i = .int .i64 k ∧ (∀ j, j < k → l.steps.getD j (0, 0, 0) ≠ (t1, t2, t3)) ∧ Below w.heap.size w wr ∧ wr.heap[w.heap.size]? = some (.cells #[.slice A l.states.length c, .slice B l.steps.length d] 32) ∧ wr.heap[w.heap.size + 1]? = some (.cells #[.int .i64 t1, .int .i64 t2, .int .i64 t3] 66))
    (fun i _ => l.steps.length - (intOf i).toNat)
  case atStart => exact ⟨0, Nat.zero_le _, rfl, fun j hj => by omega, ((Below.refl _ _).alloc (Nat.le_refl _) _).alloc (by simp) _, (heap_alloc_old _ _ (by simp)).trans (heap_alloc_new _ _), by have := heap_alloc_new (w.alloc (.cells #[.slice A l.states.length c, .slice B l.steps.length d] 32)) (.cells #[.int .i64 t1, .int .i64 t2, .int .i64 t3] 66); rwa [World.size_alloc] at this⟩
  case round =>
    obtain ⟨k, hk, rfl, hall, hbel, hby, hbx⟩ := hrel
    have HALL := Lib.hid hall
    have HB := Lib.hid (fun n => (show Below w.heap.size w (wr.drewN n) from below_drewN' hbel n))
    have HBX := Lib.hid hbx
    have HBY := Lib.hid hby
    have p1 := cell_of_row wr _ 1 _ _ _ hby
    by_cases hlt : k < l.steps.length
    · obtain ⟨b, o, c', e, h0, h1, h2⟩ := (HV.out wr hbel).at_ (List.getElem?_eq_getElem hlt)
      cases e
      have q0 := cell_of_row wr _ 0 _ _ _ hbx
      have q1 := cell_of_row wr _ 1 _ _ _ hbx
      have q2 := cell_of_row wr _ 2 _ _ _ hbx
      have hg : l.steps.getD k (0, 0, 0) = l.steps[k] := by simp [List.getD, hlt]
      have HY := Lib.hid (fun h : l.steps[k] = (t1, t2, t3) => hasT_yes hlt (hg.trans h))
      have HN := Lib.hid (fun h : l.steps[k] ≠ (t1, t2, t3) => show ∀ j, j < k + 1 → l.steps.getD j (0, 0, 0) ≠ (t1, t2, t3) from fun j hj => by
        rcases Nat.lt_succ_iff_lt_or_eq.1 hj with h' | h'
        · exact HALL.out j h'
        · rw [h', hg]; exact h)
      clear hall hbel hbx hby hg
      generalize l.steps[k] = x at *
      obtain ⟨x1, x2, x3⟩ := x
      have b0 : (0 : Int) ≤ (k : Int) := by omega
      have b1 : (k : Int) < (l.steps.length : Int) := by omega
      dsimp only at h0 h1 h2
      have EQ := Lib.hid (eqA3 x1 x2 x3 t1 t2 t3)
      cases hd : (x1 == t1 && x2 == t2 && x3 == t3)
      · have HALL2 := Lib.hid (HN.out (eqB_false (t := (x1, x2, x3)) (u := (t1, t2, t3)) hd))
        have EQ2 := EQ.out
        rw [hd] at EQ2
        clear hd
        go_wp2_with fail
        go_quiet (fail)
        go_wp2_with fail
        go_roundw
        case rel => exact ⟨k + 1, by omega, by go_num, HALL2.out, HB.out _, HBY.out, HBX.out⟩
        case measure => simp [intOf]; omega
      · have HE := Lib.hid (HY.out (eqB_true (t := (x1, x2, x3)) (u := (t1, t2, t3)) hd))
        have EQ2 := EQ.out
        rw [hd] at EQ2
        clear hd
        go_wp2_with fail
        go_quiet (fail)
        go_wp2_with fail
        go_ret
        exact ⟨by rw [HE.out]; rfl, HB.out _⟩
    · obtain rfl : k = l.steps.length := by omega
      have HF := Lib.hid (hasT_no hall)
      clear hall hbx hby
      go_wp2_with fail
      go_ret
      exact ⟨by rw [HF.out]; rfl, hbel⟩

def wayB (l : List I3) : Int → List I3 → Bool
  | _, [] => true
  | p, s :: r => (s.1 == p) && hasT l s && wayB l s.2.2 r

set_option maxRecDepth 100000 in
set_option maxHeartbeats 4000000 in
theorem isWay_any (v u : Value) (l : Sys) (p : Int) (way : List I3) (w : World) (hs : SmallSys l) (hv : RSys w v l) (hwn : way.length ≤ 16777216) (hu : RA3 w u way) :
    Calls Try.prog 51 #[v, .int .i64 p, u] w fun e w' => e = .returned (.bool (wayB l.steps p way)) ∧ Below w.heap.size w w' := by
  obtain ⟨sv, tv, rfl, hsv, htv⟩ := hv
  have hn := hs.2
  obtain ⟨A, c, rfl, _⟩ := hsv.form
  have htv' := htv
  obtain ⟨B, d, rfl, _, _⟩ := htv
  have HV := Lib.hid (show ∀ W, Below w.heap.size w W → RA3 W (.slice B l.steps.length d) l.steps from fun W hb => htv'.below hb)
  have hu' := hu
  obtain ⟨D, e, rfl, _, _⟩ := hu
  have HU := Lib.hid (show ∀ W, Below w.heap.size w W → RA3 W (.slice D way.length e) way from fun W hb => hu'.below hb)
  clear htv' hsv hs hu'
  go_enter Try.func51, Try.ntmps51
  go_wp2_with fail
  go_loopw [1, 11] (fun q i wr => ∃ (k : Nat) (m : Int), k ≤ way.length ∧ i = .int .i64 k ∧ q = .int .i64 m ∧ wayB l.steps p way = wayB l.steps m (way.drop k) ∧ Below w.heap.size w wr ∧ wr.heap[w.heap.size]? = some (.cells #[.slice A l.states.length c, .slice B l.steps.length d] 32))
    (fun _ i _ => way.length - (intOf i).toNat)
  case atStart => exact ⟨0, p, Nat.zero_le _, rfl, rfl, rfl, (Below.refl _ _).alloc (Nat.le_refl _) _, heap_alloc_new _ _⟩
  case round =>
    obtain ⟨k, m, hk, rfl, rfl, hE, hbel, hby⟩ := hrel
    by_cases hlt : k < way.length
    · obtain ⟨b, o, c', e, h0, h1, h2⟩ := (HU.out wr hbel).at_ (List.getElem?_eq_getElem hlt)
      cases e
      rw [List.drop_eq_getElem_cons hlt, wayB] at hE
      have HE := Lib.hid hE
      clear hE
      generalize way[k] = s at *
      have b0 : (0 : Int) ≤ (k : Int) := by omega
      have b1 : (k : Int) < (way.length : Int) := by omega
      have hA : Below wr.heap.size wr (wr.alloc (.cells #[.int .i64 s.1, .int .i64 s.2.1, .int .i64 s.2.2] 66)) := (Below.refl _ _).alloc (Nat.le_refl _) _
      have hbA := hbel.trans (hA.mono hbel.size)
      have hbyA := (hA.block w.heap.size (lt_of_cell (cell_of_row wr w.heap.size 1 _ _ _ hby))).trans hby
      have p1 := cell_of_row _ w.heap.size 1 _ _ _ hbyA
      have HC := Lib.hid (containsT_any (.slice B l.steps.length d) l.steps s _ hn (HV.out _ hbA))
      have HBA := Lib.hid hbA
      have HBY := Lib.hid hbyA
      have hbx := heap_alloc_new wr (.cells #[.int .i64 s.1, .int .i64 s.2.1, .int .i64 s.2.2] 66)
      have hlt2 : wr.heap.size < (wr.alloc (.cells #[.int .i64 s.1, .int .i64 s.2.1, .int .i64 s.2.2] 66)).heap.size := by simp
      have HBX := Lib.hid hbx
      clear hbel hby hA hbA hbyA
      cases hp : (s.1 == m)
      · have hp' : (s.1 != m) = true := by simpa using hp
        rw [hp, Bool.false_and, Bool.false_and] at HE
        clear hp
        go_wp2_with fail
        go_ret
        exact ⟨by rw [HE.out]; rfl, HBA.out⟩
      · have hp' : (s.1 != m) = false := by simpa using hp
        rw [hp, Bool.true_and] at HE
        clear hp
        cases hc : hasT l.steps s
        · rw [hc] at HC
          rw [hc, Bool.false_and] at HE
          clear hc
          go_wp2_with fail
          refine HC.out.mono ?_
          rintro e w1 ⟨rfl, hb⟩
          go_wp2_with fail
          go_ret
          exact ⟨by rw [HE.out]; rfl, HBA.out.trans (hb.mono HBA.out.size)⟩
        · rw [hc] at HC
          rw [hc, Bool.true_and] at HE
          clear hc
          go_wp2_with fail
          refine HC.out.mono ?_
          rintro e w1 ⟨rfl, hb⟩
          have hbx1 := (hb.block wr.heap.size hlt2).trans HBX.out
          have s2 := cell_of_row _ wr.heap.size 2 _ _ _ hbx1
          have hby1 := (hb.block w.heap.size (lt_of_cell p1)).trans HBY.out
          clear hbx1
          go_wp2_with fail
          go_roundw
          case rel => exact ⟨k + 1, s.2.2, by omega, by go_num, rfl, HE.out, HBA.out.trans (hb.mono HBA.out.size), hby1⟩
          case measure => simp [intOf]; omega
    · obtain rfl : k = way.length := by omega
      rw [List.drop_length] at hE
      have HE := Lib.hid hE
      clear hE
      go_wp2_with fail
      go_ret
      exact ⟨by rw [HE.out]; rfl, hbel⟩

set_option maxRecDepth 100000 in
set_option maxHeartbeats 4000000 in
theorem l10Way_any (v u : Value) (l : Sys) (p : Int) (way : List I3) (w : World) (hs : SmallSys l) (hv : RSys w v l) (hwn : way.length ≤ 16777216) (hu : RA3 w u way) :
    Calls Try.prog 46 #[v, .int .i64 p, u] w fun e w' => e = .returned (.bool (wayB l.steps p way)) ∧ Below w.heap.size w w' := by
  have HV := Lib.hid (show ∀ W, Below w.heap.size w W → RSys W v l from fun W hb => hv.below hb)
  obtain ⟨sv, tv, rfl, hsv, htv⟩ := hv
  have hn := hs.2
  obtain ⟨A, c, rfl, _⟩ := hsv.form
  obtain ⟨B, d, rfl, _, _⟩ := htv
  have hu' := hu
  obtain ⟨D, e, rfl, _, _⟩ := hu
  have HU := Lib.hid (show ∀ W, Below w.heap.size w W → RA3 W (.slice D way.length e) way from fun W hb => hu'.below hb)
  clear hsv hu'
  go_enter Try.func46, Try.ntmps46
  go_wp2_with fail
  go_loopw [1, 7] (fun q i wr => ∃ (k : Nat) (m : Int), k ≤ way.length ∧ i = .int .i64 k ∧ q = .int .i64 m ∧ wayB l.steps p way = wayB l.steps m (way.drop k) ∧ Below w.heap.size w wr ∧ wr.heap[w.heap.size]? = some (.cells #[.slice A l.states.length c, .slice B l.steps.length d] 32))
    (fun _ i _ => way.length - (intOf i).toNat)
  case atStart => exact ⟨0, p, Nat.zero_le _, rfl, rfl, rfl, (Below.refl _ _).alloc (Nat.le_refl _) _, heap_alloc_new _ _⟩
  case round =>
    obtain ⟨k, m, hk, rfl, rfl, hE, hbel, hby⟩ := hrel
    by_cases hlt : k < way.length
    · obtain ⟨b, o, c', e, h0, h1, h2⟩ := (HU.out wr hbel).at_ (List.getElem?_eq_getElem hlt)
      cases e
      rw [List.drop_eq_getElem_cons hlt, wayB] at hE
      have HE := Lib.hid hE
      clear hE
      generalize way[k] = s at *
      have b0 : (0 : Int) ≤ (k : Int) := by omega
      have b1 : (k : Int) < (way.length : Int) := by omega
      have p0 := cell_of_row _ w.heap.size 0 _ _ _ hby
      have p1 := cell_of_row _ w.heap.size 1 _ _ _ hby
      have HLT := Lib.hid (lt_of_cell p1)
      have HC := Lib.hid (fun d os => Calls.regrown_of (l10Has_any _ l s (grow (redrawn wr d) os) hs (HV.out _ (hbel.trans ((below_regrown wr d os).mono hbel.size)))))
      have p0 := cell_regrown p0
      have p1 := cell_regrown p1
      have h0 := cell_regrown h0
      have h1 := cell_regrown h1
      have h2 := cell_regrown h2
      have HBE := Lib.hid hbel
      have HBY := Lib.hid hby
      clear hbel hby
      cases hc : hasT l.steps s
      · rw [hc] at HC
        rw [hc, Bool.and_false, Bool.false_and] at HE
        clear hc
        go_wp2_with fail
        refine wp_region_quiet_below (by kernel_rfl) (by kernel_rfl) ?_
        repeat (quiet_step (first | exact HC.out _ _))
        refine wpQuiet_nil ?_
        intro _ hw'
        obtain ⟨⟨dq, osq⟩, hw''⟩ := hw'
        subst hw''
        have hb := below_regrown wr dq osq
        have hz := HBE.out.trans (hb.mono HBE.out.size)
        have hby1 := (hb.block w.heap.size (HLT.out)).trans HBY.out
        go_wp2_with fail
        go_ret
        exact ⟨by rw [HE.out]; rfl, hz⟩
      · rw [hc] at HC
        rw [hc, Bool.and_true] at HE
        clear hc
        cases hp : (s.1 == m)
        · have hp' : (s.1 != m) = true := by simpa using hp
          rw [hp, Bool.false_and] at HE
          clear hp
          go_wp2_with fail
          refine wp_region_quiet_below (by kernel_rfl) (by kernel_rfl) ?_
          repeat (quiet_step (first | exact HC.out _ _))
          refine wpQuiet_nil ?_
          intro _ hw'
          obtain ⟨⟨dq, osq⟩, hw''⟩ := hw'
          subst hw''
          have hb := below_regrown wr dq osq
          have hz := HBE.out.trans (hb.mono HBE.out.size)
          have hby1 := (hb.block w.heap.size (HLT.out)).trans HBY.out
          go_wp2_with fail
          go_ret
          exact ⟨by rw [HE.out]; rfl, hz⟩
        · have hp' : (s.1 != m) = false := by simpa using hp
          rw [hp, Bool.true_and] at HE
          clear hp
          go_wp2_with fail
          refine wp_region_quiet_below (by kernel_rfl) (by kernel_rfl) ?_
          repeat (quiet_step (first | exact HC.out _ _))
          refine wpQuiet_nil ?_
          intro _ hw'
          obtain ⟨⟨dq, osq⟩, hw''⟩ := hw'
          subst hw''
          have hb := below_regrown wr dq osq
          have hz := HBE.out.trans (hb.mono HBE.out.size)
          have hby1 := (hb.block w.heap.size (HLT.out)).trans HBY.out
          have HZ := Lib.hid hz
          clear hz hb
          go_wp2_with fail
          go_roundw
          case rel => exact ⟨k + 1, s.2.2, by omega, by go_num, rfl, HE.out, HZ.out, hby1⟩
          case measure => simp [intOf]; omega
    · obtain rfl : k = way.length := by omega
      rw [List.drop_length] at hE
      have HE := Lib.hid hE
      clear hE
      go_wp2_with fail
      go_ret
      exact ⟨by rw [HE.out]; rfl, hbel⟩

def okState (l : Sys) (p : Int) : Bool := goodSys l && stateB l p

set_option maxRecDepth 100000 in
set_option maxHeartbeats 4000000 in
theorem implIsWay_any (v u : Value) (l : Sys) (p : Int) (way : List I3) (w : World) (hs : SmallSys l) (hv : RSys w v l) (hwn : way.length ≤ 16777216) (hu : RA3 w u way) :
    Calls Try.prog 17 #[v, .int .i64 p, u] w fun e w' => e = .returned (.tuple #[.bool (okState l p && wayB l.steps p way), .bool (okState l p)]) ∧ Below w.heap.size w w' := by
  have hb1 : ∀ o, Below w.heap.size w (w.alloc o) := fun o => (Below.refl _ _).alloc (Nat.le_refl _) o
  have HV := Lib.hid (show ∀ W, Below w.heap.size w W → RSys W v l from fun W hb => hv.below hb)
  have HU := Lib.hid (show ∀ W, Below w.heap.size w W → RA3 W u way from fun W hb => hu.below hb)
  have HB := Lib.hid hb1
  obtain ⟨D, e, rfl, _, _⟩ := hu
  obtain ⟨sv, tv, rfl, hsv, htv⟩ := hv
  obtain ⟨A, c, rfl, _⟩ := hsv.form
  obtain ⟨B, d, rfl, _, _⟩ := htv
  clear hsv hb1
  have H1 := Lib.hid (fun o => isSystem_any _ l (w.alloc o) hs (HV.out _ (HB.out o)))
  cases hg : goodSys l
  · have E1 := Lib.hid (show okState l p = false by simp [okState, hg])
    rw [hg] at H1
    clear hg
    go_enter Try.func17, Try.ntmps17
    go_wp2_with fail
    refine (H1.out _).mono ?_
    rintro e w1 ⟨rfl, hw1⟩
    go_wp2_with fail
    go_ret2
    exact ⟨by rw [E1.out]; rfl, (HB.out _).trans (hw1.mono (HB.out _).size)⟩
  · rw [hg] at H1
    cases hst : stateB l p
    · have E1 := Lib.hid (show okState l p = false by simp [okState, hst])
      clear hg
      go_enter Try.func17, Try.ntmps17
      go_wp2_with fail
      refine (H1.out _).mono ?_
      rintro e w1 ⟨rfl, hw1⟩
      obtain ⟨bx, _⟩ := one_box hw1
      have x0 : w1.cell? ⟨w.heap.size, 0, none⟩ = some (.slice A l.states.length c) := cell_of_row _ _ _ _ _ _ bx
      have x1 : w1.cell? ⟨w.heap.size, 1, none⟩ = some (.slice B l.steps.length d) := cell_of_row _ _ _ _ _ _ bx
      have hz1 := (HB.out _).trans (hw1.mono (HB.out _).size)
      clear bx hw1
      go_wp2_with fail
      refine (isState_any _ l p w1 hs (HV.out w1 hz1)).mono ?_
      rintro e w2 ⟨rfl, hw2⟩
      rw [hst]
      have hz2 := hz1.trans (hw2.mono hz1.size)
      clear hw2
      go_wp2_with fail
      go_ret2
      exact ⟨by rw [E1.out]; rfl, hz2⟩
    · have E1 := Lib.hid (show okState l p = true by simp [okState, hg, hst])
      clear hg
      go_enter Try.func17, Try.ntmps17
      go_wp2_with fail
      refine (H1.out _).mono ?_
      rintro e w1 ⟨rfl, hw1⟩
      obtain ⟨bx, _⟩ := one_box hw1
      have x0 : w1.cell? ⟨w.heap.size, 0, none⟩ = some (.slice A l.states.length c) := cell_of_row _ _ _ _ _ _ bx
      have x1 : w1.cell? ⟨w.heap.size, 1, none⟩ = some (.slice B l.steps.length d) := cell_of_row _ _ _ _ _ _ bx
      have hz1 := (HB.out _).trans (hw1.mono (HB.out _).size)
      clear bx hw1
      go_wp2_with fail
      refine (isState_any _ l p w1 hs (HV.out w1 hz1)).mono ?_
      rintro e w2 ⟨rfl, hw2⟩
      rw [hst]
      have hz2 := hz1.trans (hw2.mono hz1.size)
      have y0 := cell_below hw2 x0 (lt_of_cell x0)
      have y1 := cell_below hw2 x1 (lt_of_cell x1)
      clear hw2 x0 x1
      go_wp2_with fail
      refine (isWay_any _ _ l p way w2 hs (HV.out w2 hz2) hwn (HU.out w2 hz2)).mono ?_
      rintro e w3 ⟨rfl, hw3⟩
      have hz3 := hz2.trans (hw3.mono hz2.size)
      clear hw3
      go_wp2_with fail
      go_ret2
      exact ⟨by rw [E1.out]; rfl, hz3⟩

set_option maxRecDepth 100000 in
set_option maxHeartbeats 4000000 in
theorem specIsWay_any (v u : Value) (l : Sys) (p : Int) (way : List I3) (w : World) (hs : SmallSys l) (hv : RSys w v l) (hwn : way.length ≤ 16777216) (hu : RA3 w u way) :
    Calls Try.prog 14 #[v, .int .i64 p, u] w fun e w' => e = .returned (.tuple #[.bool (okState l p && wayB l.steps p way), .bool (okState l p)]) ∧ Below w.heap.size w w' := by
  have hb1 : ∀ o, Below w.heap.size w (w.alloc o) := fun o => (Below.refl _ _).alloc (Nat.le_refl _) o
  have HV := Lib.hid (show ∀ W, Below w.heap.size w W → RSys W v l from fun W hb => hv.below hb)
  have HU := Lib.hid (show ∀ W, Below w.heap.size w W → RA3 W u way from fun W hb => hu.below hb)
  have HB := Lib.hid hb1
  obtain ⟨D, e, rfl, _, _⟩ := hu
  obtain ⟨sv, tv, rfl, hsv, htv⟩ := hv
  obtain ⟨A, c, rfl, _⟩ := hsv.form
  obtain ⟨B, d, rfl, _, _⟩ := htv
  clear hsv hb1
  have H1 := Lib.hid (fun o => l10Good_any _ l (w.alloc o) hs (HV.out _ (HB.out o)))
  cases hg : goodSys l
  · have E1 := Lib.hid (show okState l p = false by simp [okState, hg])
    rw [hg] at H1
    clear hg
    go_enter Try.func14, Try.ntmps14
    go_wp2_with fail
    refine (H1.out _).mono ?_
    rintro e w1 ⟨rfl, hw1⟩
    go_wp2_with fail
    go_ret2
    exact ⟨by rw [E1.out]; rfl, (HB.out _).trans (hw1.mono (HB.out _).size)⟩
  · rw [hg] at H1
    cases hst : stateB l p
    · have E1 := Lib.hid (show okState l p = false by simp [okState, hst])
      clear hg
      go_enter Try.func14, Try.ntmps14
      go_wp2_with fail
      refine (H1.out _).mono ?_
      rintro e w1 ⟨rfl, hw1⟩
      obtain ⟨bx, _⟩ := one_box hw1
      have x0 : w1.cell? ⟨w.heap.size, 0, none⟩ = some (.slice A l.states.length c) := cell_of_row _ _ _ _ _ _ bx
      have x1 : w1.cell? ⟨w.heap.size, 1, none⟩ = some (.slice B l.steps.length d) := cell_of_row _ _ _ _ _ _ bx
      have hz1 := (HB.out _).trans (hw1.mono (HB.out _).size)
      clear bx hw1
      go_wp2_with fail
      refine (l10State_any _ l p w1 hs (HV.out w1 hz1)).mono ?_
      rintro e w2 ⟨rfl, hw2⟩
      rw [hst]
      have hz2 := hz1.trans (hw2.mono hz1.size)
      clear hw2
      go_wp2_with fail
      go_ret2
      exact ⟨by rw [E1.out]; rfl, hz2⟩
    · have E1 := Lib.hid (show okState l p = true by simp [okState, hg, hst])
      clear hg
      go_enter Try.func14, Try.ntmps14
      go_wp2_with fail
      refine (H1.out _).mono ?_
      rintro e w1 ⟨rfl, hw1⟩
      obtain ⟨bx, _⟩ := one_box hw1
      have x0 : w1.cell? ⟨w.heap.size, 0, none⟩ = some (.slice A l.states.length c) := cell_of_row _ _ _ _ _ _ bx
      have x1 : w1.cell? ⟨w.heap.size, 1, none⟩ = some (.slice B l.steps.length d) := cell_of_row _ _ _ _ _ _ bx
      have hz1 := (HB.out _).trans (hw1.mono (HB.out _).size)
      clear bx hw1
      go_wp2_with fail
      refine (l10State_any _ l p w1 hs (HV.out w1 hz1)).mono ?_
      rintro e w2 ⟨rfl, hw2⟩
      rw [hst]
      have hz2 := hz1.trans (hw2.mono hz1.size)
      have y0 := cell_below hw2 x0 (lt_of_cell x0)
      have y1 := cell_below hw2 x1 (lt_of_cell x1)
      clear hw2 x0 x1
      go_wp2_with fail
      refine (l10Way_any _ _ l p way w2 hs (HV.out w2 hz2) hwn (HU.out w2 hz2)).mono ?_
      rintro e w3 ⟨rfl, hw3⟩
      have hz3 := hz2.trans (hw3.mono hz2.size)
      clear hw3
      go_wp2_with fail
      go_ret2
      exact ⟨by rw [E1.out]; rfl, hz3⟩

end Go.Proofs.Yteljknidcaoeoaa
