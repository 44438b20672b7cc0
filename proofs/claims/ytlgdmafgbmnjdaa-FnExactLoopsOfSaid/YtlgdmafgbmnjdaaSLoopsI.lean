/- Systems: the least states of loops; the program walked. -/
import Derived.Test.YtlgdmafgbmnjdaaProg
import Derived.Test.YtlgdmafgbmnjdaaSReachI
import Derived.Test.YtlgdmafgbmnjdaaSLoops
import Derived.Test.YtlgdmafgbmnjdaaTab
import Derived.Deep.RegionHeld3
import Derived.Deep.RegionLaw
set_option linter.unusedVariables false
namespace Go.Proofs.Ytlgdmafgbmnjdaa
open Go.RowKit
open Go.Sort (grow)

def rowsTo (l : Sys) (k : Nat) : List (List Int) := (List.range k).map fun (i : Nat) => reachL l (i : Int)
theorem rowsTo_len (l : Sys) (k : Nat) : (rowsTo l k).length = k := by simp [rowsTo]
theorem rowsTo_next (l : Sys) (k : Nat) : rowsTo l (k + 1) = rowsTo l k ++ [reachL l (k : Int)] := by simp [rowsTo, List.range_succ]
theorem rowsTo_at (l : Sys) {k i : Nat} (h : i < k) : (rowsTo l k)[i]? = some (reachL l (i : Int)) := by simp [rowsTo, h]

theorem owns_type {w : World} {B : Nat} {e : TypeId} {s : Nat} {v : Value} {n : Nat} {xs : List Value} {b : Nat} {cs : Array Value} {t : TypeId} (h : w.ownsRow B e s v n xs) (hb : w.heap[b]? = some (.cells cs t)) (hne : e ≠ t) : v.ownBlock ≠ some b := by
  intro hv
  rcases h.2 with ⟨rfl, _⟩ | ⟨g1, _, _, rfl, _, a1, _⟩
  · simp [Value.ownBlock] at hv
  · simp only [Value.ownBlock, Option.some.injEq] at hv
    subst hv
    rw [a1] at hb
    injection hb with hb
    injection hb with _ hb
    exact hne hb
theorem owns_set_type {w : World} {B : Nat} {e : TypeId} {s : Nat} {v : Value} {n : Nat} {xs : List Value} {b : Nat} {cs : Array Value} {t : TypeId} {u : Value} (h : w.ownsRow B e s v n xs) (hb : w.heap[b]? = some (.cells cs t)) (hne : e ≠ t) : (w.setCell ⟨b, 0, none⟩ u).ownsRow B e s v n xs := by
  have hn := owns_type h hb hne
  refine ⟨h.1, ?_⟩
  rcases h.2 with hn' | ⟨g1, cap, cur, rfl, hbg, hgg, rest⟩
  · exact .inl hn'
  · exact .inr ⟨g1, cap, cur, rfl, hbg, by rw [heap_setCell_other _ _ _ _ (fun e => hn (by rw [e]; rfl))]; exact hgg, rest⟩
theorem TRows.set_type {w : World} {B : Nat} {v : Value} {xss : List (List Int)} {b : Nat} {cs : Array Value} {u : Value} (h : TRows w B v xss) (hb : w.heap[b]? = some (.cells cs 76)) : TRows (w.setCell ⟨b, 0, none⟩ u) B v xss := by
  obtain ⟨vs, h1, h2, h3⟩ := h
  exact ⟨vs, owns_set_type h1 hb (by decide), fun i v xs a b' => owns_set_type (h2 i v xs a b') hb (by decide), h3⟩

set_option maxRecDepth 100000 in
set_option maxHeartbeats 1000000 in
theorem loopClosure_any (ab ao n c0 : Nat) (R : Option Addr) (cr : Nat) (r : List Int) (t : Nat) (x : Int) (a b : Nat) (w : World) (ht : t < n) (hn : n ≤ 16777216) (hr : r.length ≤ 16777216)
    (ha : w.cell? ⟨a, 0, none⟩ = some (.slice (some ⟨ab, ao, none⟩) n c0)) (hb : w.cell? ⟨b, 0, none⟩ = some (.int .i64 x)) (hc : w.cell? ⟨ab, ao + t, none⟩ = some (.slice R r.length cr)) (hR : Cells w R (ints r)) :
    Calls Try.prog 65 #[.int .i64 t, .pointer (some ⟨a, 0, none⟩), .pointer (some ⟨b, 0, none⟩)] w fun e w' => e = .returned (.bool (hasI r x)) ∧ Below w.heap.size w w' := by
  have HB := Lib.hid (fun n => (show Below w.heap.size w (w.drewN n) from below_drewN' (Below.refl _ _) n))
  have H := Lib.hid (fun W hW => contains_q R cr r x W hr hW)
  have HR := Lib.hid (fun m => show Cells (w.drewN m) R (ints r) from hR)
  have HRw := Lib.hid hR
  have b0 : (0 : Int) ≤ (t : Int) := by omega
  have b1 : (t : Int) < (n : Int) := by omega
  clear hR
  go_enter Try.func65, Try.ntmps65
  go_wp2_with fail
  go_quiet ((exact Calls.quiet_of_same (H.out _ (by first | exact HRw.out | exact HR.out _))))
  go_wp2_with fail
  go_ret
  exact ⟨rfl, HB.out _⟩

set_option maxRecDepth 100000 in
set_option maxHeartbeats 16000000 in
theorem implLoopsOf_any (v : Value) (l : Sys) (w : World) (hs : SmallSys l) (hv : RSys w v l) :
    Calls Try.prog 31 #[v] w fun e w' => ∃ r, e = .returned (.tuple #[r, .bool (goodSys l)]) ∧ w'.ownsRow w.heap.size 3 1 r (lpsL l).length (ints (lpsL l)) ∧ Below w.heap.size w w' := by
  obtain ⟨i0, hi, hz0, hz1, hz2⟩ := info_parts info_ni
  obtain ⟨j0, hj0, hy0, hy1, hy2⟩ := info_parts info_cs
  have HV := Lib.hid (show ∀ W, Below w.heap.size w W → RSys W v l from fun W hb => hv.below hb)
  obtain ⟨sv, tv, rfl, hsv, htv⟩ := hv
  obtain ⟨A, c, rfl, _⟩ := hsv.form
  obtain ⟨B, d, rfl, _, _⟩ := htv
  have hb1 : ∀ o, Below w.heap.size w (w.alloc o) := fun o => (Below.refl _ _).alloc (Nat.le_refl _) o
  have HB := Lib.hid hb1
  have H1 := Lib.hid (fun o => isSystem_any _ l (w.alloc o) hs (HV.out _ (hb1 o)))
  have hsn := hs.1
  clear hsv hb1
  cases hg : goodSys l
  · have E1 := Lib.hid (show lpsL l = [] by unfold lpsL; rw [hg]; rfl)
    rw [hg] at H1
    clear hg
    go_enter Try.func31, Try.ntmps31
    go_wp2_with fail
    refine (H1.out _).mono ?_
    rintro e w1 ⟨rfl, hw1⟩
    have HZ := Lib.hid ((HB.out _).trans (hw1.mono (HB.out _).size))
    clear hw1
    go_wp2_with fail
    go_ret2
    rw [E1.out]
    exact ⟨_, rfl, World.ownsRow_nil _ _ _ _, HZ.out⟩
  obtain ⟨l1, l2⟩ := good_len hg
  have HGD := Lib.hid hg
  have E1 := Lib.hid (show lpsL l = loopsTo l l.states.length by unfold lpsL; rw [hg]; rfl)
  rw [hg] at H1
  clear hg
  go_enter Try.func31, Try.ntmps31
  go_wp2_with fail
  refine (H1.out _).mono ?_
  rintro e w1 ⟨rfl, hw1⟩
  obtain ⟨bx, hlt1⟩ := one_box hw1
  have hz := (HB.out _).trans (hw1.mono (HB.out _).size)
  have hA1 : Below w.heap.size w (w1.alloc (.cells #[] 26)) := hz.alloc hz.size _
  have hA2 : Below w.heap.size w ((w1.alloc (.cells #[] 26)).alloc (.cells #[.slice (some ⟨w1.heap.size, 0, none⟩) 0 0] 76)) := hA1.alloc hA1.size _
  have HBX := Lib.hid ((heap_alloc_old (w1.alloc (.cells #[] 26)) (.cells #[.slice (some ⟨w1.heap.size, 0, none⟩) 0 0] 76) (by simp; omega)).trans ((heap_alloc_old w1 (.cells #[] 26) hlt1).trans bx))
  have HZ := Lib.hid hA2
  have hal := heap_alloc_new (w1.alloc (.cells #[] 26)) (.cells #[.slice (some ⟨w1.heap.size, 0, none⟩) 0 0] 76)
  rw [World.size_alloc] at hal
  have HAL := Lib.hid hal
  have HT := Lib.hid (show TRows ((w1.alloc (.cells #[] 26)).alloc (.cells #[.slice (some ⟨w1.heap.size, 0, none⟩) 0 0] 76)) (w.heap.size + 1) (.slice (some ⟨w1.heap.size, 0, none⟩) 0 0) (rowsTo l 0) from
    ⟨[], (owns_mono (owns_zero w1 26) hlt1).alloc _, fun i v xs h => by simp at h, fun i j v v' b _ h => by simp at h⟩)
  have x0 : ((w1.alloc (.cells #[] 26)).alloc (.cells #[.slice (some ⟨w1.heap.size, 0, none⟩) 0 0] 76)).cell? ⟨w.heap.size, 0, none⟩ = some (.slice A l.states.length c) := cell_of_row _ _ _ _ _ _ HBX.out
  have HW1 := Lib.hid hlt1
  clear hw1 bx hz hA1 hA2 hal
  go_wp2_with fail
  clear x0
  have HPW := Lib.hid (show w.heap.size < w1.heap.size + 1 by omega)
  generalize w1.heap.size + 1 = P at *
  go_loopw [16] (fun i wr => ∃ (k : Nat) (u : Value), k ≤ l.states.length ∧ i = .int .i64 k ∧ TRows wr (w.heap.size + 1) u (rowsTo l k) ∧ wr.heap[P]? = some (.cells #[u] 76) ∧ Below w.heap.size w wr ∧ wr.heap[w.heap.size]? = some (.cells #[.slice A l.states.length c, .slice B l.steps.length d] 32))
    (fun i _ => l.states.length - (intOf i).toNat)
  case atStart => exact ⟨0, _, Nat.zero_le _, rfl, HT.out, HAL.out, HZ.out, HBX.out⟩
  case round =>
    clear HT HAL HZ HBX
    obtain ⟨k, u, hk, rfl, htab, hal, hbel, hbx⟩ := hrel
    have HAL := Lib.hid hal
    have HB1 := Lib.hid hbel
    have HBX := Lib.hid hbx
    have HWZ := Lib.hid (show w.heap.size < wr.heap.size from (Array.getElem?_eq_some_iff.1 hbx).1)
    have p0 := cell_of_row wr w.heap.size 0 _ _ _ hbx
    have p1 := cell_of_row wr w.heap.size 1 _ _ _ hbx
    have q0 : wr.cell? ⟨P, 0, none⟩ = some u := cell_of_row _ _ _ _ _ _ hal
    by_cases hlt : k < l.states.length
    · obtain ⟨vs, t1, t2, t3⟩ := htab
      obtain ⟨AU, cU, rfl, t1⟩ := owns_form t1
      rw [rowsTo_len] at t1 hal q0 HAL
      have T1 := Lib.hid t1
      have T2 := Lib.hid t2
      have T3 := Lib.hid t3
      have HR := Lib.hid (fun W hW => reached_any _ l k W hs HGD.out hlt (HV.out W hW))
      have HPL := Lib.hid (show P < wr.heap.size from (Array.getElem?_eq_some_iff.1 hal).1)
      clear t1 t2 t3 hal hbel hbx
      have b0 : (0 : Int) ≤ (k : Int) := by omega
      have b1 : (k : Int) < (l.states.length : Int) := by omega
      go_wp2_with fail
      go_region_law (first
        | (go_simp; go_at_call 62; refine (HR.out _ (by first | exact HB1.out | exact HB1.out.drew)).mono ?_; rintro e w3 ⟨r, rfl, hr, hw3⟩; obtain ⟨AR, cR, rfl, hr⟩ := owns_form hr; have q0 := cell_below hw3 q0 HPL.out; have q1 : (w3.alloc (.cells #[.slice AR (reachL l (k : Int)).length cR] 26)).cell? ⟨P, 0, none⟩ = some (.slice AU k cU) := cell_below ((Below.refl _ _).alloc (Nat.le_refl _) _) q0 (lt_of_cell q0); have t1' := (owns_below T1.out (show Below wr.heap.size wr w3 from ⟨hw3.os, hw3.tape, hw3.output, hw3.size, hw3.block⟩) (Nat.le_refl _)).alloc (.cells #[.slice AR (reachL l (k : Int)).length cR] 26); have hal3 := (hw3.block P HPL.out).trans HAL.out; have hw3' : Below wr.heap.size wr w3 := ⟨hw3.os, hw3.tape, hw3.output, hw3.size, hw3.block⟩; have hs3 := hw3'.size; have hr' : w3.ownsRow wr.heap.size 3 1 (.slice AR (reachL l (k : Int)).length cR) (reachL l (k : Int)).length (ints (reachL l (k : Int))) := hr)
        | (refine step_append_own rfl (.tmp 19) (.tmp 23) 76 rfl (w.heap.size + 1) 26 j0 (.slice none 0 0) 1 24 Try.underlying76 hj0 hy0 hy1 hy2 rfl (by decide) _ k vs rfl t1' ⟨w3.heap.size, 0, none⟩ 1 1 [.slice AR (reachL l (k : Int)).length cR] rfl rfl ?g2 ?g3 ?g4 ?g5 ?g6 ?_; (case g2 => exact new_cell1 w3 _ _ rfl); (case g3 => intro u hu; simp at hu; subst hu; rfl); (case g4 => unfold maxLen; omega); (case g5 => omega); (case g6 => have := HWZ.out; simp; omega); intro v2 w4 hown4 hgrow4 _; have hg4 : (w3.alloc (.cells #[.slice AR (reachL l (k : Int)).length cR] 26)).grownBy w4 (Value.slice AU k cU).ownBlock := hgrow4; obtain ⟨A2, c2, rfl, hown4⟩ := owns_form hown4; have hne := owns_type t1' (show (w3.alloc _).heap[P]? = some (.cells #[.slice AU k cU] 76) from (heap_alloc_old _ _ (by have := HPL.out; omega)).trans hal3) (by decide); have hal4 : w4.heap[P]? = some (.cells #[.slice AU k cU] 76) := (hgrow4.block P (by have := HPL.out; simp; omega) (fun e => hne e.symm)).trans ((heap_alloc_old _ _ (by have := HPL.out; omega)).trans hal3); have s0 : w4.cell? ⟨P, 0, none⟩ = some (.slice AU k cU) := cell_of_row _ _ _ _ _ _ hal4; have s1 : w4.frozen? ⟨P, 0, none⟩ = false := frozen_of_row _ _ _ _ _ hal4)
        | fail)
      all_goals
        have hp := TRows.push (l := rowsTo l k) (by rw [rowsTo_len]; exact T1.out) T2.out T3.out HWZ.out hr' hw3' (by rw [rowsTo_len]; exact hown4) hg4
        rw [← rowsTo_next] at hp
        have HP := Lib.hid (hp.set_type (u := .slice A2 (k + 1) c2) hal4)
        have HAL5 := Lib.hid (heap_setCell_same w4 P 0 _ _ (.slice A2 (k + 1) c2) hal4)
        have HB4 := Lib.hid ((((HB1.out.trans (hw3'.mono HB1.out.size)).alloc (HB1.out.trans (hw3'.mono HB1.out.size)).size (.cells #[.slice AR (reachL l (k : Int)).length cR] 26)).grown hg4 ((HB1.out.trans (hw3'.mono HB1.out.size)).alloc (HB1.out.trans (hw3'.mono HB1.out.size)).size _).size (fun q hq => by have := (T1.out.lt q hq).1; omega)).setCell (p := ⟨P, 0, none⟩) (by show w.heap.size ≤ P; have := HPW.out; omega) (.slice A2 (k + 1) c2))
        have HBX4 := Lib.hid ((heap_setCell_other w4 ⟨P, 0, none⟩ w.heap.size (.slice A2 (k + 1) c2) (by have := HPW.out; dsimp only; omega)).trans ((hg4.block w.heap.size (by have := HWZ.out; simp; omega) (fun e => by have := (T1.out.lt _ e.symm).1; omega)).trans ((heap_alloc_old _ _ (by have := HWZ.out; omega)).trans ((hw3'.block w.heap.size HWZ.out).trans HBX.out))))
        clear hp hg4 hgrow4 hown4 hal4 hal3 t1' hr' hr hw3 s0 s1 q0 q1
        go_wp2_with fail
        go_roundw
        case rel => exact ⟨k + 1, _, by omega, by go_num, HP.out, HAL5.out, HB4.out, HBX4.out⟩
        case measure => simp [intOf]; omega
    · obtain rfl : k = l.states.length := by omega
      have HT := Lib.hid htab
      have HLP := Lib.hid (fun (i : Nat) (hi : i < l.states.length) => loop_prog (good_steps HGD.out) hi)
      have HRE := Lib.hid (fun (i : Nat) (hi : i < l.states.length) => reach_len HGD.out hi)
      have HRI := Lib.hid (fun (i : Nat) (hi : i < l.states.length) q (hq : q < (reachL l (i : Int)).length) => show ∃ j : Nat, (reachL l (i : Int)).getD q 0 = (j : Int) ∧ j < l.states.length from reachR_inN (good_steps HGD.out) hi l.states.length _ (getD_mem hq))
      have hsm : Small (rowsTo l l.states.length) := fun xs hx => by
        obtain ⟨i, hi, rfl⟩ := List.mem_map.1 hx
        have := HRE.out i (List.mem_range.1 hi)
        omega
      obtain ⟨A0, c0, vs, rfl, _, hvl, hcA, hrow⟩ := htab.rss (by rw [rowsTo_len]; omega) hsm
      rw [rowsTo_len] at hvl hal q0 HAL
      obtain ⟨ab, ao, rfl, hcA'⟩ := hcA.at_ (k := 0) (by omega)
      have HAT := Lib.hid (show ∀ i, i < l.states.length → ∃ Ai ci, wr.cell? ⟨ab, ao + i, none⟩ = some (.slice Ai (reachL l (i : Int)).length ci) ∧ Cells wr Ai (ints (reachL l (i : Int))) from fun i hi => by
        have hv := List.getElem?_eq_getElem (l := vs) (i := i) (by omega)
        obtain ⟨Ai, ci, e, _, hc⟩ := hrow i _ _ hv (rowsTo_at l hi)
        have := hcA' i _ hv
        rw [e] at this
        exact ⟨Ai, ci, this, hc⟩)
      have HPL := Lib.hid (show P < wr.heap.size from (Array.getElem?_eq_some_iff.1 hal).1)
      have HQ0 := Lib.hid q0
      have HP0 := Lib.hid p0
      have hown0 := owns_zero wr 3
      have HON := Lib.hid (show (wr.alloc (.cells #[] 3)).ownsRow wr.heap.size 3 1 (.slice (some ⟨wr.heap.size, 0, none⟩) 0 0) (loopsTo l 0).length (ints (loopsTo l 0)) from hown0)
      have HBN := Lib.hid (show Below wr.heap.size wr (wr.alloc (.cells #[] 3)) from (Below.refl _ _).alloc (Nat.le_refl _) _)
      have x0 : (wr.alloc (.cells #[] 3)).cell? ⟨w.heap.size, 0, none⟩ = some (.slice A l.states.length c) := cell_below HBN.out p0 (lt_of_cell p0)
      clear hal hbel hbx hcA hcA' hrow hvl htab hown0 q0 p1 hsm
      obtain ⟨ws, hws⟩ : ∃ ws, ws = wr := ⟨_, rfl⟩
      subst hws
      go_wp2_with fail
      clear x0 p0
      go_loopw [6, 30] (fun u i wr => ∃ k : Nat, k ≤ l.states.length ∧ i = .int .i64 k ∧ wr.ownsRow ws.heap.size 3 1 u (loopsTo l k).length (ints (loopsTo l k)) ∧ Below ws.heap.size ws wr)
        (fun _ i _ => l.states.length - (intOf i).toNat)
      case atStart => exact ⟨0, Nat.zero_le _, rfl, HON.out, HBN.out⟩
      case round =>
        clear HON HBN
        obtain ⟨k, hk, rfl, hown, hbel⟩ := hrel
        obtain ⟨AO, cO, rfl, hown⟩ := owns_form hown
        have HLL := Lib.hid (loopsTo_len l k)
        have HO := Lib.hid hown
        have HB2 := Lib.hid hbel
        clear hown hbel
        by_cases hlt : k < l.states.length
        · obtain ⟨q, hq1, hq2, hq3⟩ := HLP.out k hlt
          obtain ⟨Ak, ck, hak, hack⟩ := HAT.out k hlt
          have HNX := Lib.hid (loopsTo_next l k)
          have hA : Below wr.heap.size wr (wr.alloc (.cells #[.int .i64 (k : Int)] 3)) := (Below.refl _ _).alloc (Nat.le_refl _) _
          have HBA := Lib.hid (HB2.out.trans (hA.mono HB2.out.size))
          have q0 := cell_below HBA.out HQ0.out HPL.out
          have q1 := cell_below HBA.out hak (lt_of_cell hak)
          have q2 : (wr.alloc (.cells #[.int .i64 (k : Int)] 3)).cell? ⟨wr.heap.size, 0, none⟩ = some (.int .i64 (k : Int)) := cell_of_row _ _ _ _ _ _ (heap_alloc_new _ _)
          have HQ2 := Lib.hid q2
          have HQK := Lib.hid q1
          have HCK := Lib.hid hack
          have HOA := Lib.hid (HO.out.alloc (.cells #[.int .i64 (k : Int)] 3))
          have HQ3 := Lib.hid hq3
          have HSZ := Lib.hid HB2.out.size
          have HRK := Lib.hid (HRE.out k hlt)
          have HRKI := Lib.hid (HRI.out k hlt)
          have HIF := Lib.hid (show Calls Try.prog 64 #[.slice Ak (reachL l (k : Int)).length ck, .func (.func 65) #[] #[.pointer (some ⟨P, 0, none⟩), .pointer (some ⟨wr.heap.size, 0, none⟩)]] (wr.alloc (.cells #[.int .i64 (k : Int)] 3)) (fun e w' => e = .returned (.int .i64 (q : Int)) ∧ Below (wr.alloc (.cells #[.int .i64 (k : Int)] 3)).heap.size (wr.alloc (.cells #[.int .i64 (k : Int)] 3)) w') from by
            rw [← hq1]
            refine indexFuncI_any Ak ck (reachL l (k : Int)) 65 #[.pointer (some ⟨P, 0, none⟩), .pointer (some ⟨wr.heap.size, 0, none⟩)] _ _ (by have := HRE.out k hlt; omega) (hack.below HBA.out) (enter_of Try.func65 (by kernel_rfl) (by kernel_rfl)) (fun m W hm hb => ?_)
            obtain ⟨j, ej, hj⟩ := HRI.out k hlt m hm
            obtain ⟨Aj, cj, haj, hacj⟩ := HAT.out j hj
            have hbW := HBA.out.trans (hb.mono HBA.out.size)
            have := loopClosure_any ab ao l.states.length c0 Aj cj (reachL l (j : Int)) j (k : Int) P wr.heap.size W hj hsn (by have := HRE.out j hj; omega) (cell_below hbW HQ0.out HPL.out) (cell_below hb HQ2.out (lt_of_cell HQ2.out)) (cell_below hbW haj (lt_of_cell haj)) (hacj.below hbW)
            show Calls _ _ (#[.int .i64 ((reachL l (k : Int)).getD m 0)] ++ _) W (fun e W' => e = .returned (.bool ((reachR l.steps ((reachL l (k : Int)).getD m 0) l.states.length).contains (k : Int))) ∧ _)
            rw [ej]
            exact this)
          have hq2' : q < (reachL l (k : Int)).length := hq2
          obtain ⟨kb, ko, rfl, hck⟩ := hack.int hq2'
          have hckq := hck q hq2'
          have hq3' : (reachL l (k : Int)).getD q 0 = loopAt l.states.length l.steps k := hq3
          rw [hq3'] at hckq
          have HCQ := Lib.hid hckq
          have b0 : (0 : Int) ≤ (k : Int) := by omega
          have b1 : (k : Int) < (l.states.length : Int) := by omega
          have b2 : (0 : Int) ≤ (q : Int) := by omega
          have b3 : (q : Int) < ((reachL l (k : Int)).length : Int) := by omega
          clear hq1 hq2 hq3 hak hack hA hck hckq hq3' hq2'
          generalize loopAt l.states.length l.steps k = y at *
          generalize reachL l (k : Int) = rk at *
          generalize loopsTo l k = lk at *
          have hlk : lk.length ≤ 40 := by have := HLL.out; omega
          go_wp2_with fail
          refine HIF.out.mono ?_
          rintro er w5 ⟨rfl, hw5⟩
          have HB5 := Lib.hid (HBA.out.trans (hw5.mono HBA.out.size))
          have r0 := cell_below HB5.out HQ0.out HPL.out
          have r1 := cell_below hw5 HQK.out (lt_of_cell HQK.out)
          have r2 := cell_below hw5 HQ2.out (lt_of_cell HQ2.out)
          have r3 := cell_below HB5.out HCQ.out (lt_of_cell HCQ.out)
          have HO5 := Lib.hid (owns_below HOA.out hw5 (Nat.le_refl _))
          clear hw5 q0 q1 q2
          go_wp2_with (at_builtin; refine wpList_append_own _ rfl _ _ 26 rfl ws.heap.size 3 i0 (.int .i64 0) 1 8 Try.underlying26 hi hz0 hz1 hz2 rfl (by decide) _ _ _ rfl (HO5.out.alloc _) ⟨w5.heap.size, 0, none⟩ 1 1 [.int .i64 y] rfl rfl ?c1 ?c2 ?c3 ?c4 ?c5 ?_)
          case c1 => exact new_cell1 _ _ _ rfl
          case c2 => intro u hu; simp at hu; subst hu; rfl
          case c3 => unfold maxLen; omega
          case c4 => omega
          case c5 => exact (HB5.out.alloc HB5.out.size _).size
          intro v2 w2 hown2 hgrow2 _
          have hints : ints lk ++ [.int .i64 y] = ints (loopsTo l (k + 1)) := by rw [HNX.out]; simp [ints]
          have hlen2 : lk.length + 1 = (loopsTo l (k + 1)).length := by rw [HNX.out]; simp
          rw [hints, hlen2] at hown2
          have HO2 := Lib.hid hown2
          have HG2 := Lib.hid ((HB5.out.alloc HB5.out.size _).grown hgrow2 (HB5.out.alloc HB5.out.size _).size (fun q hq => (HO5.out.lt q hq).1))
          clear hown2 hgrow2 hints hlen2 r0 r1 r2 r3
          go_wp2_with fail
          go_roundw
          case rel => exact ⟨k + 1, by omega, by go_num, HO2.out, HG2.out⟩
          case measure => simp [intOf]; omega
        · obtain rfl : k = l.states.length := by omega
          have HR := Lib.hid (owns_mono HO.out HB1.out.size)
          rw [← E1.out] at HR ⊢
          have HBZ := Lib.hid (HB1.out.trans (HB2.out.mono HB1.out.size))
          have HG2 := HGD.out
          go_wp2_with fail
          go_ret2
          exact ⟨_, rfl, HR.out, HBZ.out⟩

end Go.Proofs.Ytlgdmafgbmnjdaa
