/- Labelled systems: whether each step of a state is answered by another one: the reference walked. Whether all elements of a list are in another one: program and reference walked. -/
import Derived.Test.YtdgnhfhaaghoaaaGreatDoorProg
import Derived.Test.YtdgnhfhaaghoaaaGreatDoorJ12
import Derived.Test.YtdgnhfhaaghoaaaGreatDoorJ30
import Derived.Test.YtdgnhfhaaghoaaaGreatDoorJ21
import Derived.Lib.QuietBelow
import Derived.Deep.QuietTactic
import Derived.BigQuiet
import Derived.Deep.RegionHeld3
import Derived.Test.YtdgnhfhaaghoaaaGreatDoorJ2
import Derived.Test.YtdgnhfhaaghoaaaGreatDoorJ7
import Derived.Test.YtdgnhfhaaghoaaaGreatDoorJ27
import Derived.Test.YtdgnhfhaaghoaaaGreatDoorJ23
set_option linter.unusedSimpArgs false
set_option linter.unusedVariables false
namespace Go.Proofs.YtdgnhfhaaghoaaaGreatDoor
open Go.RowKit

structure LabIn (l : Lab) : Prop where
  some_ : 1 ≤ l.shows.length
  most : l.shows.length ≤ 40
  step : ∀ s ∈ l.steps, (∃ i j : Nat, s.1 = (i : Int) ∧ s.2.2 = (j : Int) ∧ i < l.shows.length ∧ j < l.shows.length) ∧ 0 ≤ s.2.1 ∧ s.2.1 < 8
theorem allR_in {n k : Nat} {p : Nat → Bool} (h : allR n p = true) (hk : k < n) : p k = true := by
  unfold allR at h
  rw [List.all_eq_true] at h
  exact h k (List.mem_range.2 hk)
theorem lab_in {l : Lab} (h : goodLab l = true) : LabIn l := by
  unfold goodLab at h
  simp only [Bool.and_eq_true] at h
  have h0 := inB_true h.1
  refine ⟨by omega, by omega, fun s hs => ?_⟩
  obtain ⟨i, hi, rfl⟩ := List.getElem_of_mem hs
  have h1 := allR_in h.2.1 hi
  unfold stepAt stepIn at h1
  have e : l.steps.getD i (0, 0, 0) = l.steps[i] := by simp [List.getD, hi]
  rw [e] at h1
  simp only [Bool.and_eq_true] at h1
  have a := inB_true h1.1.1
  have b := inB_true h1.1.2.1
  have c := inB_true h1.1.2.2
  exact ⟨⟨l.steps[i].1.toNat, l.steps[i].2.2.toNat, by omega, by omega, by omega, by omega⟩, by omega, by omega⟩

theorem any_take_next {f : Int → Bool} {L : List Int} {k : Nat} (h : k < L.length) : (L.take (k + 1)).any f = ((L.take k).any f || f (L.getD k 0)) := by
  rw [List.take_succ_eq_append_getElem h, List.any_append]
  simp [List.getD, h]

set_option maxRecDepth 100000 in
set_option maxHeartbeats 16000000 in
theorem l11Answered_any (v : Value) (l : Lab) (B g c : Nat) (R C : Nat → Nat) (n : Nat) (f : Nat → Nat → Bool) (s t : Nat) (w : World) (hs : SmallLab l) (hg : goodLab l = true) (hn : n = l.shows.length) (hv : RLab w v l) (hT : TabB w B g R C n f) :
    Calls Tryz.prog 115 #[v, .slice (some ⟨g, 0, none⟩) n c, .int .i64 s, .int .i64 t] w fun e w' => e = .returned (.bool (folB l.steps s t (relF n f))) ∧ Below w.heap.size w w' := by
  have hin := lab_in hg
  have hn1 : 1 ≤ n := by have := hin.some_; omega
  have hn40 : n ≤ 40 := by have := hin.most; omega
  have HIN := Lib.hid hin
  have HN := Lib.hid hn
  have HV := Lib.hid (show ∀ W, Below w.heap.size w W → RLab W v l from fun W hb => hv.below hb)
  have HT := Lib.hid (show ∀ W, Below w.heap.size w W → TabB W B g R C n f from fun W hb => hT.below hb (Nat.le_refl _))
  obtain ⟨sv, tv, rfl, hsv, htv⟩ := hv
  have hns := hs.2.1
  obtain ⟨A, c0, vs, rfl, _, _, _, _⟩ := hsv
  have htv' := htv
  obtain ⟨D, d, rfl, _, _⟩ := htv
  have HS := Lib.hid (show ∀ W, Below w.heap.size w W → RA3 W (.slice D l.steps.length d) l.steps from fun W hb => htv'.below hb)
  have HSM := Lib.hid hs
  rw [fol_ans]
  have HBX := Lib.hid (heap_alloc_new w (.cells #[.slice A l.shows.length c0, .slice D l.steps.length d] 27))
  have HB0 := Lib.hid (show Below w.heap.size w (w.alloc (.cells #[.slice A l.shows.length c0, .slice D l.steps.length d] 27)) from (Below.refl _ _).alloc (Nat.le_refl _) _)
  clear htv' hs hg hin hn hT
  go_enter Tryz.func115, Tryz.ntmps115
  go_wp2_with fail
  go_loopw [9] (fun i wr => ∃ k : Nat, k ≤ l.steps.length ∧ i = .int .i64 k ∧ Below w.heap.size w wr ∧ wr.heap[w.heap.size]? = some (.cells #[.slice A l.shows.length c0, .slice D l.steps.length d] 27) ∧ (l.steps.take k).all (fun a => !(a.1 == (s : Int)) || ansB l.steps t (relF n f) a) = true)
    (fun i _ => l.steps.length - (intOf i).toNat)
  case atStart => exact ⟨0, Nat.zero_le _, rfl, HB0.out, HBX.out, rfl⟩
  case round =>
    clear HB0 HBX
    obtain ⟨k, hk, rfl, hbel, hbx, hall⟩ := hrel
    have hsz := hbel.size
    have hlt0 := (Array.getElem?_eq_some_iff.1 hbx).1
    have x0 : wr.cell? ⟨w.heap.size, 0, none⟩ = some (.slice A l.shows.length c0) := cell_of_row _ _ _ _ _ _ hbx
    have x1 : wr.cell? ⟨w.heap.size, 1, none⟩ = some (.slice D l.steps.length d) := cell_of_row _ _ _ _ _ _ hbx
    have HALL := Lib.hid hall
    have HBX := Lib.hid hbx
    have HBE := Lib.hid hbel
    clear hall
    by_cases hlt : k < l.steps.length
    · obtain ⟨b, o, c', e, h0, h1, h2⟩ := (HS.out wr hbel).at_ (List.getElem?_eq_getElem hlt)
      cases e
      have HTK := Lib.hid (show (l.steps.take (k + 1)).all (fun a => !(a.1 == (s : Int)) || ansB l.steps t (relF n f) a) = (!(l.steps[k].1 == (s : Int)) || ansB l.steps t (relF n f) l.steps[k]) from by
        rw [List.take_succ_eq_append_getElem hlt, List.all_append, HALL.out]
        simp)
      have HNO := Lib.hid (show (!(l.steps[k].1 == (s : Int)) || ansB l.steps t (relF n f) l.steps[k]) = false → l.steps.all (fun a => !(a.1 == (s : Int)) || ansB l.steps t (relF n f) a) = false from fun h => by
        rw [List.all_eq_false]
        exact ⟨_, List.getElem_mem hlt, by rw [h]; exact Bool.false_ne_true⟩)
      have HMEM := Lib.hid (HIN.out.step _ (List.getElem_mem hlt))
      generalize l.steps[k] = a at *
      have b0 : (0 : Int) ≤ (k : Int) := by omega
      have b1 : (k : Int) < (l.steps.length : Int) := by omega
      cases hp : (a.1 == (s : Int))
      · rw [hp] at HTK
        have hp' : (a.1 != (s : Int)) = true := by simp [bne, hp]
        clear hbx hbel
        go_wp2_with fail
        go_roundw
        case rel => exact ⟨k + 1, by omega, by go_num, HBE.out, HBX.out, by rw [HTK.out]; rfl⟩
        case measure => simp [intOf]; omega
      · have hp' : (a.1 != (s : Int)) = false := by simp [bne, hp]
        rw [hp] at HTK HNO
        simp only [Bool.not_true, Bool.false_or] at HTK HNO
        have HNX := Lib.hid (fun W (hW : Below w.heap.size w W) => l11Next_any _ l t a.2.1 W HSM.out (HV.out W hW))
        obtain ⟨⟨u1, u, hu1, hu, _, hun⟩, _, _⟩ := HMEM.out
        clear hbx hbel
        go_wp2_with fail
        go_region_held3 (fun w' => w'.cell? ⟨w.heap.size, 0, none⟩ = some (.slice A l.shows.length c0) ∧ w'.cell? ⟨w.heap.size, 1, none⟩ = some (.slice (some ⟨b, o, none⟩) l.steps.length d) ∧ w'.cell? ⟨b, o + k * 3 + 1, none⟩ = some (.int .i64 a.2.1))
          (first | go_keep | exact ⟨cell_below hw2 x0 (lt_of_cell x0), cell_below hw2 x1 (lt_of_cell x1), cell_below hw2 h1 (lt_of_cell h1)⟩)
          (first | (go_at_call 137; refine (HNX.out _ (by first | exact HBE.out | exact HBE.out.drew)).mono ?_; rintro e w2 ⟨r, rfl, hr, hw2'⟩; obtain ⟨AR, cR, rfl, hr⟩ := owns_form hr; have hw2 : Below wr.heap.size wr w2 := ⟨hw2'.os, hw2'.tape, hw2'.output, hw2'.size, hw2'.block⟩))
        have HL := Lib.hid (show ∀ q, q < (nextA l.steps t a.2.1).length → ∃ j : Nat, (nextA l.steps t a.2.1).getD q 0 = (j : Int) ∧ j < n from fun q hq => by
          have hm : (nextA l.steps t a.2.1).getD q 0 ∈ nextA l.steps t a.2.1 := by simp [List.getD, hq]
          generalize (nextA l.steps t a.2.1).getD q 0 = z at hm ⊢
          unfold nextA at hm
          obtain ⟨y, hy, e⟩ := List.mem_map.1 hm
          obtain ⟨⟨_, j, _, hj, _, hjn⟩, _, _⟩ := HIN.out.step y (List.mem_filter.1 hy).1
          exact ⟨j, by rw [← e]; exact hj, by rw [HN.out]; exact hjn⟩)
        have HLL := Lib.hid (show (nextA l.steps t a.2.1).length ≤ 16777216 by have := nextA_all l.steps t a.2.1; omega)
        have HAN := Lib.hid (show ansB l.steps t (relF n f) a = (nextA l.steps t a.2.1).any (fun x => relF n f a.2.2 x) from rfl)
        have HC := Lib.hid (show Cells w2 (AR) (ints (nextA l.steps t a.2.1)) from Cells.of_owns hr)
        have HZ2 := Lib.hid (HBE.out.trans (hw2.mono HBE.out.size))
        have HX0 := Lib.hid (cell_below hw2 x0 (lt_of_cell x0))
        have HX1 := Lib.hid (cell_below hw2 x1 (lt_of_cell x1))
        have HH2 := Lib.hid (cell_below hw2 h2 (lt_of_cell h2))
        have HBX2 := Lib.hid ((hw2.block w.heap.size hlt0).trans HBX.out)
        have HUN := Lib.hid (show u < n by have := HN.out; omega)
        clear hr hw2 hw2' x0 x1 h0 h1 h2
        generalize nextA l.steps t a.2.1 = L at *
        have hLL := HLL.out
        go_wp2_with fail
        go_loopw [10, 12] (fun fd i wr => ∃ q : Nat, q ≤ L.length ∧ i = .int .i64 q ∧ fd = .bool ((L.take q).any (fun x => relF n f a.2.2 x)) ∧ Below w2.heap.size w2 wr)
          (fun _ i _ => L.length - (intOf i).toNat)
        case atStart => exact ⟨0, Nat.zero_le _, rfl, rfl, Below.refl _ _⟩
        case round =>
          obtain ⟨q, hq, rfl, rfl, hbq⟩ := hrel
          have HBQ := Lib.hid hbq
          have x0 := cell_below hbq HX0.out (lt_of_cell HX0.out)
          have x1 := cell_below hbq HX1.out (lt_of_cell HX1.out)
          have h2 := cell_below hbq HH2.out (lt_of_cell HH2.out)
          by_cases hql : q < L.length
          · have hnx := any_take_next (f := fun x => relF n f a.2.2 x) hql
            obtain ⟨j, hj, hjn⟩ := HL.out q hql
            obtain ⟨lb, lo, rfl, hlc⟩ := (HC.out.below hbq).int hql
            have hlq := hlc q hql
            rw [hj] at hlq
            have ht1 := (HT.out wr (HZ2.out.trans (hbq.mono HZ2.out.size))).outer u HUN.out
            have ht2 := ((HT.out wr (HZ2.out.trans (hbq.mono HZ2.out.size))).inner u j HUN.out hjn).1
            have hrel2 : relF n f a.2.2 (L.getD q 0) = f u j := by rw [hj, hu]; exact relF_at HUN.out hjn
            rw [hrel2] at hnx
            have HNX2 := Lib.hid hnx
            rw [hu] at h2
            have c0 : (0 : Int) ≤ (q : Int) := by omega
            have c1 : (q : Int) < (L.length : Int) := by omega
            have c2 : (0 : Int) ≤ (u : Int) := by omega
            have c3 : (u : Int) < (n : Int) := by have := HUN.out; omega
            have c4 : (0 : Int) ≤ (j : Int) := by omega
            have c5 : (j : Int) < (n : Int) := by omega
            clear hnx hlc hj hrel2
            generalize f u j = fv at *
            cases hfd : (L.take q).any (fun x => relF n f a.2.2 x)
            · rw [hfd] at HNX2
              go_wp2_with fail
              go_quiet (fail)
              go_wp2_with fail
              go_roundw
              case rel => exact ⟨q + 1, by omega, by go_num, by rw [HNX2.out]; rfl, below_drewN' HBQ.out _⟩
              case measure => simp [intOf]; omega
            · rw [hfd] at HNX2
              clear x0 x1 h2 ht1 ht2 hlq
              go_wp2_with fail
              go_quiet (fail)
              go_wp2_with fail
              go_roundw
              case rel => exact ⟨q + 1, by omega, by go_num, by rw [HNX2.out]; rfl, below_drewN' HBQ.out _⟩
              case measure => simp [intOf]; omega
          · obtain rfl : q = L.length := by omega
            have HZQ := Lib.hid (HZ2.out.trans (hbq.mono HZ2.out.size))
            have HBXQ := Lib.hid ((hbq.block w.heap.size (by have := HZ2.out.size; have := lt_of_cell HX0.out; dsimp only at this; omega)).trans HBX2.out)
            have htl : L.take L.length = L := List.take_length
            rw [htl]
            clear htl
            cases hans : L.any (fun x => relF n f a.2.2 x)
            · rw [← HAN.out] at hans
              have HF := Lib.hid (HNO.out hans)
              clear x0 x1 h2 hans
              go_wp2_with fail
              go_ret
              refine ⟨?_, HZQ.out⟩
              rw [HF.out]
              rfl
            · rw [← HAN.out] at hans
              rw [hans] at HTK
              clear x0 x1 h2 hans
              go_wp2_with fail
              go_roundw
              case rel => exact ⟨k + 1, by omega, by go_num, HZQ.out, HBXQ.out, HTK.out⟩
              case measure => simp [intOf]; omega
    · obtain rfl : k = l.steps.length := by omega
      rw [List.take_length] at HALL
      clear hbx
      go_wp2_with fail
      go_ret
      refine ⟨?_, HBE.out⟩
      rw [HALL.out]
      rfl

end Go.Proofs.YtdgnhfhaaghoaaaGreatDoor

set_option linter.unusedVariables false
namespace Go.Proofs.YtdgnhfhaaghoaaaGreatDoor
open Go.RowKit

def partB (a b : List Int) : Bool := allR a.length fun k => hasI b (a.getD k 0)

set_option maxRecDepth 100000 in
set_option maxHeartbeats 1000000 in
theorem l7Part_any (A B : Option Addr) (c d : Nat) (xs ys : List Int) (w : World) (hn : xs.length ≤ 16777216) (hm : ys.length ≤ 16777216) (hA : Cells w A (ints xs)) (hB : Cells w B (ints ys)) :
    Calls Tryz.prog 171 #[.slice A xs.length c, .slice B ys.length d] w fun e w' => e = .returned (.bool (partB xs ys)) ∧ w = w' := by
  have H := Lib.hid (fun x => l1Has_any B d ys x w hm hB)
  go_enter Tryz.func171, Tryz.ntmps171
  go_wp2_with fail
  go_loop [5] (fun i => ∃ k : Nat, k ≤ xs.length ∧ i = .int .i64 k ∧ ∀ j, j < k → hasI ys (xs.getD j 0) = true) (fun i => xs.length - (intOf i).toNat)
  case atStart => exact ⟨0, Nat.zero_le _, rfl, fun j hj => by omega⟩
  case round =>
    obtain ⟨k, hk, rfl, hall⟩ := hrel
    have HALL := Lib.hid hall
    clear hall
    by_cases hlt : k < xs.length
    · obtain ⟨b, o, rfl, hcl⟩ := hA.int hlt
      have ck := hcl k hlt
      have HN := Lib.hid (show hasI ys (xs.getD k 0) = true → ∀ j, j < k + 1 → hasI ys (xs.getD j 0) = true from fun h j hj => by
        rcases Nat.lt_succ_iff_lt_or_eq.1 hj with h' | h'
        · exact HALL.out j h'
        · rw [h']; exact h)
      have HF := Lib.hid (show hasI ys (xs.getD k 0) = false → partB xs ys = false from fun h => allR_false hlt h)
      have HX := Lib.hid (H.out (xs.getD k 0))
      have b0 : (0 : Int) ≤ (k : Int) := by omega
      have b1 : (k : Int) < (xs.length : Int) := by omega
      clear hcl hA hB
      generalize xs.getD k 0 = y at *
      cases hh : hasI ys y
      · rw [hh] at HX
        have HF2 := Lib.hid (HF.out hh)
        clear hh HF HN
        go_wp2_with fail
        refine HX.out.mono ?_
        rintro e w1 ⟨rfl, rfl⟩
        go_wp2_with fail
        go_ret
        exact ⟨by rw [HF2.out]; rfl, rfl⟩
      · rw [hh] at HX
        have HN2 := Lib.hid (HN.out hh)
        clear hh HF HN
        go_wp2_with fail
        refine HX.out.mono ?_
        rintro e w1 ⟨rfl, rfl⟩
        go_wp2_with fail
        go_round
        case rel => exact ⟨k + 1, by omega, by go_num, HN2.out⟩
        case measure => simp [intOf]; omega
    · obtain rfl : k = xs.length := by omega
      have HT := Lib.hid (show partB xs ys = true from allR_true HALL.out)
      go_wp2_with fail
      go_ret
      exact ⟨by rw [HT.out]; rfl, rfl⟩

set_option maxRecDepth 100000 in
set_option maxHeartbeats 1000000 in
theorem isPart1_any (B : Option Addr) (d : Nat) (ys : List Int) (x : Int) (a : Nat) (w : World) (hm : ys.length ≤ 16777216) (ha : w.cell? ⟨a, 0, none⟩ = some (.slice B ys.length d)) (hB : Cells w B (ints ys)) :
    Calls Tryz.prog 170 #[.int .i64 x, .pointer (some ⟨a, 0, none⟩)] w fun e w' => e = .returned (.bool (!hasI ys x)) ∧ Below w.heap.size w w' := by
  have H := Lib.hid (contains_any B d ys x w hm hB)
  clear hB
  go_enter Tryz.func170, Tryz.ntmps170
  go_wp2_with fail
  refine H.out.mono ?_
  rintro e w1 ⟨rfl, rfl⟩
  go_wp2_with fail
  go_ret
  exact ⟨rfl, Below.refl _ _⟩

set_option maxRecDepth 100000 in
set_option maxHeartbeats 1000000 in
theorem isPart_any (A B : Option Addr) (c d : Nat) (xs ys : List Int) (w : World) (hn : xs.length ≤ 16777216) (hm : ys.length ≤ 16777216) (hA : Cells w A (ints xs)) (hB : Cells w B (ints ys)) :
    Calls Tryz.prog 116 #[.slice A xs.length c, .slice B ys.length d] w fun e w' => e = .returned (.bool (partB xs ys)) ∧ Below w.heap.size w w' := by
  have hal : Below w.heap.size w (w.alloc (.cells #[.slice B ys.length d] 30)) := (Below.refl _ _).alloc (Nat.le_refl _) _
  have hc : (w.alloc (.cells #[.slice B ys.length d] 30)).cell? ⟨w.heap.size, 0, none⟩ = some (.slice B ys.length d) := cell_of_row _ _ _ _ _ _ (heap_alloc_new _ _)
  have H := Lib.hid (containsFuncI_any A c xs 170 #[.pointer (some ⟨w.heap.size, 0, none⟩)] (fun k => !hasI ys (xs.getD k 0)) _ hn (hA.below hal) (enter_of Tryz.func170 (by kernel_rfl) (by kernel_rfl)) (fun k W hk hb => isPart1_any B d ys (xs.getD k 0) w.heap.size W hm (cell_below hb hc (lt_of_cell hc)) ((hB.below hal).below hb)))
  have HE := Lib.hid (show (!anyR xs.length fun k => !hasI ys (xs.getD k 0)) = partB xs ys from any_not _ _ _ (fun k _ => rfl))
  have HB := Lib.hid hal
  clear hal hc hA hB
  go_enter Tryz.func116, Tryz.ntmps116
  go_wp2_with fail
  refine H.out.mono ?_
  rintro e w1 ⟨rfl, hb1⟩
  go_wp2_with fail
  go_ret
  exact ⟨by rw [← HE.out]; rfl, HB.out.trans (hb1.mono HB.out.size)⟩

end Go.Proofs.YtdgnhfhaaghoaaaGreatDoor
