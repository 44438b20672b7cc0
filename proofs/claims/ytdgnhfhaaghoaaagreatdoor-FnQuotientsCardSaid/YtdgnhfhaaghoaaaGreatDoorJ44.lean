/- The quotient is small: plain. A labelled system in a box, as the laws keep them; what stays of it. The laws' own helpers over lists of numbers: vInts, vHas, vBig. The draws of one labelled system. -/
import Derived.Test.YtdgnhfhaaghoaaaGreatDoorProg
import Derived.Test.YtdgnhfhaaghoaaaGreatDoorJ43
import Derived.Test.YtdgnhfhaaghoaaaGreatDoorJ2
import Derived.Test.YtdgnhfhaaghoaaaGreatDoorJ37
import Derived.Test.YtdgnhfhaaghoaaaGreatDoorJ42
import Derived.Test.YtdgnhfhaaghoaaaGreatDoorJ0
import Derived.Deep.CutBlock
set_option linter.unusedSimpArgs false
set_option linter.unusedVariables false
namespace Go.Proofs.YtdgnhfhaaghoaaaGreatDoor
open Go.RowKit

theorem quoR_lens (l : Lab) : (quoR l).shows.length ≤ 40 ∧ (quoR l).steps.length ≤ 12800 ∧ ∀ xs ∈ (quoR l).shows, xs.length ≤ 8 := by
  unfold quoR
  split
  · rename_i hg
    have hn := (goodF_size hg).2
    have hs := goodF_many hg
    refine ⟨?_, ?_, fun xs hx => ?_⟩
    · have := reps_len l
      show ((repsI l).map _).length ≤ 40
      rw [List.length_map]
      omega
    · have h1 := sortT_len (quoSteps l)
      have h2 : (quoSteps l).length ≤ l.steps.length := by
        unfold quoSteps
        rw [List.length_map]
        exact List.length_filter_le _ _
      show (sortT (quoSteps l)).length ≤ 12800
      omega
    · have hx' : xs ∈ (repsI l).map fun i => l.shows.getD i.toNat [] := hx
      rw [List.mem_map] at hx'
      obtain ⟨i, hi, rfl⟩ := hx'
      obtain ⟨k, hk, e⟩ := List.getElem_of_mem hi
      obtain ⟨j, hj, hjn⟩ := reps_val l hk
      have e2 : i = (j : Int) := by rw [← e, ← hj]; simp [List.getD, hk]
      rw [e2, Int.toNat_natCast]
      exact (goodF_row hg hjn).2.2
  · exact ⟨by simp, by simp, fun xs hx => by simp at hx⟩
theorem small_quoR (l : Lab) : SmallLab (quoR l) := by
  obtain ⟨h1, h2, h3⟩ := quoR_lens l
  exact ⟨by omega, by omega, fun xs hx => by have := h3 xs hx; omega⟩
end Go.Proofs.YtdgnhfhaaghoaaaGreatDoor

set_option linter.unusedVariables false
namespace Go.Proofs.YtdgnhfhaaghoaaaGreatDoor
open Go.RowKit

structure At (W : World) (g : Nat) (U T : Value) (l : Lab) : Prop where
  box : W.heap[g]? = some (.cells #[U, T] 27)
  r : RLab W (.agg #[U, T]) l
section
variable {W W' : World} {g : Nat} {U T : Value} {l : Lab}
theorem At.below (h : At W g U T l) (hb : Below W.heap.size W W') : At W' g U T l :=
  { box := (hb.block g (Array.getElem?_eq_some_iff.1 h.box).1).trans h.box, r := h.r.below hb }
theorem At.cells (h : At W g U T l) : W.cell? ⟨g, 0, none⟩ = some U ∧ W.cell? ⟨g, 1, none⟩ = some T := ⟨cell_of_row W g 0 _ _ _ h.box, cell_of_row W g 1 _ _ _ h.box⟩
theorem At.new (hW : W' = W.alloc (.cells #[U, T] 27)) (hr : RLab W (.agg #[U, T]) l) : At W' W.heap.size U T l := by
  subst hW
  exact { box := heap_alloc_new _ _, r := hr.below ((Below.refl _ _).alloc (Nat.le_refl _) _) }
end
theorem below_new {w w' : World} {o : Obj} (h : w' = w.alloc o) : Below w.heap.size w w' := by
  subst h; exact (Below.refl _ _).alloc (Nat.le_refl _) _
theorem small_good {l : Lab} (h : goodLab l = true) : SmallLab l := by
  have h1 := goodF_size h
  have h2 := goodF_many h
  refine ⟨by omega, by omega, fun xs hx => ?_⟩
  have := (goodF_rows h xs hx).2
  omega
theorem small_union (a b : Lab) : SmallLab (unionR a b) := by
  by_cases h : okU a b = true
  · exact small_good (union_good h)
  · unfold unionR
    rw [if_neg h]
    exact ⟨by simp, by simp, fun xs hx => by simp at hx⟩
theorem DLab.open_ {w w' : World} {u t : Value} (h : DLab w w' u t) : ∃ (l : Lab) (AU : Option Addr) (cU : Nat) (AT : Option Addr) (cT : Nat), SmallLab l ∧ DSz l ∧ u = .slice AU l.shows.length cU ∧ t = .slice AT l.steps.length cT ∧ RLab w' (.agg #[u, t]) l := by
  obtain ⟨l, hs, hz, hR⟩ := h.rlab
  obtain ⟨sv, tv, e, ⟨AU, cU, vs, e1, h1⟩, ⟨AT, cT, e2, h2⟩⟩ := hR
  cases e
  exact ⟨l, AU, cU, AT, cT, hs, hz, e1, e2, u, t, rfl, ⟨AU, cU, vs, e1, h1⟩, ⟨AT, cT, e2, h2⟩⟩
theorem owns_cap {w : World} {B n c : Nat} {e : TypeId} {s : Nat} {A : Option Addr} {xs : List Value} (h : w.ownsRow B e s (.slice A n c) n xs) (hn : 0 < n) : ∃ g, A = some ⟨g, 0, none⟩ ∧ n ≤ c := by
  rcases h.2 with ⟨e1, e2⟩ | ⟨g, cap, cur, e1, _, _, h3, _⟩
  · omega
  · cases e1
    exact ⟨g, rfl, h3⟩
theorem cells_takeI {w : World} {A : Option Addr} {xs : List Int} (h : Cells w A (ints xs)) (n : Nat) : Cells w A (ints (xs.take n)) := fun j u hj => by
  refine h j u ?_
  have e : ints (xs.take n) = (ints xs).take n := by simp [ints, List.map_take]
  rw [e, List.getElem?_take] at hj
  split at hj
  · exact hj
  · cases hj
theorem posR_next (l : Lab) (k : Nat) : posR l (k + 1) = posR l k + if isRep l k then 1 else 0 := by
  unfold posR
  rw [List.range_succ, List.filter_append, List.length_append]
  cases h : isRep l k <;> simp [h]
theorem posR_all (l : Lab) : posR l l.shows.length = (repsI l).length := by unfold posR repsI; simp

end Go.Proofs.YtdgnhfhaaghoaaaGreatDoor

set_option linter.unusedVariables false
namespace Go.Proofs.YtdgnhfhaaghoaaaGreatDoor
open Go.RowKit

set_option maxHeartbeats 1000000 in
theorem vInts_any (A B : Option Addr) (c d : Nat) (xs ys : List Int) (w : World) (hn : xs.length ≤ 16777216) (hm : ys.length ≤ 16777216) (hA : Cells w A (ints xs)) (hB : Cells w B (ints ys)) :
    Calls Tryz.prog 13 #[.slice A xs.length c, .slice B ys.length d] w fun e w' => e = .returned (.bool (sameI xs ys)) ∧ Below w.heap.size w w' := by
  by_cases hl : xs.length = ys.length
  · have hl' : ((xs.length : Int) == (ys.length : Int)) = true := by simp [hl]
    have hl'' : ((xs.length : Int) != (ys.length : Int)) = false := by simp [hl]
    have HL := Lib.hid hl
    clear hl
    go_enter Tryz.func13, Tryz.ntmps13
    go_wp2
    go_loopw [5] (fun i wr => ∃ k : Nat, k ≤ xs.length ∧ i = .int .i64 k ∧ (∀ j, j < k → xs.getD j 0 = ys.getD j 0) ∧ Below w.heap.size w wr)
      (fun i _ => xs.length - (intOf i).toNat)
    case atStart => exact ⟨0, Nat.zero_le _, rfl, fun j hj => by omega, Below.refl _ _⟩
    case round =>
      obtain ⟨k, hk, rfl, hsame, hbel⟩ := hrel
      have HS := Lib.hid hsame
      clear hsame
      by_cases hlt : k < xs.length
      · have hlt2 : k < ys.length := by have := HL.out; omega
        obtain ⟨b, o, rfl, hc⟩ := (hA.below hbel).int hlt
        have hck := hc k hlt
        obtain ⟨b', o', rfl, hc'⟩ := (hB.below hbel).int hlt2
        have hck' := hc' k hlt2
        clear hc hc' hA hB
        by_cases hx : xs.getD k 0 = ys.getD k 0
        · have HX := Lib.hid hx
          have hb0 : (xs.getD k 0 != ys.getD k 0) = false := by rw [hx, bne_self_eq_false]
          clear hx
          obtain ⟨x, ex⟩ : ∃ x, x = xs.getD k 0 := ⟨_, rfl⟩
          obtain ⟨y, ey⟩ : ∃ y, y = ys.getD k 0 := ⟨_, rfl⟩
          rw [← ex] at hck hb0
          rw [← ey] at hck' hb0
          clear ex ey
          go_wp2
          go_quiet (fail)
          go_wp2
          go_roundw
          case rel =>
            refine ⟨k + 1, by omega, by go_num, fun j hj => ?_, below_drewN' hbel _⟩
            rcases Nat.lt_succ_iff_lt_or_eq.1 hj with h | h
            · exact HS.out j h
            · rw [h]; exact HX.out
          case measure => simp [intOf]; omega
        · have E := sameI_at hx
          have HE := Lib.hid E
          have hb0 : (xs.getD k 0 != ys.getD k 0) = true := by rw [bne_iff_ne]; exact hx
          clear hx E
          obtain ⟨x, ex⟩ : ∃ x, x = xs.getD k 0 := ⟨_, rfl⟩
          obtain ⟨y, ey⟩ : ∃ y, y = ys.getD k 0 := ⟨_, rfl⟩
          rw [← ex] at hck hb0
          rw [← ey] at hck' hb0
          clear ex ey
          go_wp2
          go_quiet (fail)
          go_wp2
          go_ret
          exact ⟨by rw [HE.out]; rfl, below_drewN' hbel _⟩
      · obtain rfl : k = xs.length := by omega
        have E := sameI_all HL.out HS.out
        have HE := Lib.hid E
        clear E
        go_wp2
        go_ret
        exact ⟨by rw [HE.out]; rfl, hbel⟩
  · have hl' : ((xs.length : Int) == (ys.length : Int)) = false := by rw [beq_eq_false_iff_ne]; omega
    have hl'' : ((xs.length : Int) != (ys.length : Int)) = true := by rw [bne_iff_ne]; omega
    have HE := Lib.hid (sameI_len hl)
    clear hl
    go_enter Tryz.func13, Tryz.ntmps13
    go_wp2
    go_ret
    exact ⟨by rw [HE.out]; rfl, Below.refl _ _⟩

theorem vBig_any (A : Option Addr) (n c : Nat) (w : World) (hn : n ≤ maxLen) :
    Calls Tryz.prog 9 #[.slice A n c] w fun e w' => e = .returned (.bool (decide (65536 < n))) ∧ w = w' := by
  by_cases h : 65536 < n
  · have h' : (65536 : Int) < (n : Int) := by omega
    go_enter Tryz.func9, Tryz.ntmps9
    go_wp2
    go_ret
    exact ⟨by simp [h], rfl⟩
  · have h' : ¬ (65536 : Int) < (n : Int) := by omega
    go_enter Tryz.func9, Tryz.ntmps9
    go_wp2
    go_ret
    exact ⟨by simp [h], rfl⟩

end Go.Proofs.YtdgnhfhaaghoaaaGreatDoor

set_option linter.unusedVariables false
namespace Go.Proofs.YtdgnhfhaaghoaaaGreatDoor
open Go.RowKit

set_option maxRecDepth 100000 in
set_option maxHeartbeats 16000000 in
theorem drawIsLabelled_any (A : Option Addr) (bs : List Int) (c : Nat) (w : World) (hA : Cells w A (u8s bs)) (hrng : ∀ x ∈ bs, 0 ≤ x ∧ x < 256) (hlen : bs.length ≤ 1000000000000) :
    Calls Tryz.prog 85 #[.slice A bs.length c] w fun e w' => ∃ u t, e = .returned (.agg #[u, t]) ∧ DLab w w' u t ∧ Below w.heap.size w w' := by
  obtain ⟨W0, hW0⟩ : ∃ W0, W0 = (w.alloc (.cells #[.slice none 0 0, .slice none 0 0] 27)).alloc (.cells #[.slice A bs.length c, .int .i64 0, .int .u64 0] 94) := ⟨_, rfl⟩
  have hb0 : Below w.heap.size w W0 := by rw [hW0]; exact ((Below.refl _ _).alloc (Nat.le_refl _) _).alloc (by simp) _
  have hs0 : W0.heap.size = w.heap.size + 1 + 1 := by rw [hW0]; simp
  have bx0 : W0.heap[w.heap.size]? = some (.cells #[.slice none 0 0, .slice none 0 0] 27) := by
    rw [hW0]
    exact (heap_alloc_old _ _ (by simp)).trans (heap_alloc_new _ _)
  have hC : Cur W0 (w.heap.size + 1) A bs c 0 := by
    have h := Cur.start (c := c) (hA.below (((Below.refl w.heap.size w).alloc (Nat.le_refl _) (.cells #[.slice none 0 0, .slice none 0 0] 27)))) hrng hlen
    rw [World.size_alloc] at h
    rw [hW0]; exact h
  have HC := Lib.hid hC
  have HB0 := Lib.hid hb0
  have HX0 := Lib.hid bx0
  have HW0 := Lib.hid hW0
  clear hC hb0 bx0 hW0 hA
  go_enter Tryz.func85, Tryz.ntmps85
  go_wp2_with fail
  rw [← HW0.out]
  (with_reducible refine (labelled_any (w.heap.size + 1) A bs c 0 W0 HC.out (by omega)).mono ?_)
  rintro e w1 ⟨u, t, rfl, hD, hC1, hK1⟩
  obtain ⟨AU, n, cU, AT, m, cT, rfl, rfl⟩ := hD.form
  have bx1 := (hK1.block w.heap.size (by omega) (by omega)).trans HX0.out
  have HD := Lib.hid hD
  have HK1 := Lib.hid hK1
  have HX1 := Lib.hid bx1
  have f0 := frozen_of_row w1 _ 0 _ _ bx1
  have f1 := frozen_of_row w1 _ 1 _ _ bx1
  have s0 := cell_of_row w1 _ 0 _ _ _ bx1
  have s1 := cell_of_row w1 _ 1 _ _ _ bx1
  have hs1 := hK1.size
  clear hD hK1 hC1 bx1
  go_wp2_with fail
  obtain ⟨hend, hk2⟩ := box_put (.slice AU n cU) (.slice AT m cT) HX1.out
  (try simp only [Exit.inBlock, Exit.then])
  refine bodyPost_ret (results_cell_row rfl _ _ w.heap.size _ #[.slice AU n cU, .slice AT m cT] _ _ rfl hend Tryz.underlying27 rfl (by kernel_rfl)) rfl ?_
  exact ⟨_, _, rfl, (HD.out.kept hk2 (fun q hq => by omega)).low (by omega), (HB0.out.trans (HK1.out.below (B := w.heap.size) (fun q hq => by omega) (by omega))).trans (hk2.below (B := w.heap.size) (fun q hq => by omega) (by omega))⟩

set_option maxHeartbeats 4000000 in
theorem drawQuotientOf_any (A : Option Addr) (bs : List Int) (c : Nat) (w : World) (hA : Cells w A (u8s bs)) (hrng : ∀ x ∈ bs, 0 ≤ x ∧ x < 256) (hlen : bs.length ≤ 1000000000000) :
    Calls Tryz.prog 35 #[.slice A bs.length c] w fun e w' => ∃ u t, e = .returned (.agg #[u, t]) ∧ DLab w w' u t ∧ Below w.heap.size w w' := by
  obtain ⟨W0, hW0⟩ : ∃ W0, W0 = w.alloc (.cells #[.slice none 0 0, .slice none 0 0] 27) := ⟨_, rfl⟩
  have hb0 : Below w.heap.size w W0 := by rw [hW0]; exact (Below.refl _ _).alloc (Nat.le_refl _) _
  have hs0 : W0.heap.size = w.heap.size + 1 := by rw [hW0]; simp
  have bx0 : W0.heap[w.heap.size]? = some (.cells #[.slice none 0 0, .slice none 0 0] 27) := by rw [hW0]; exact heap_alloc_new _ _
  have H := Lib.hid (drawIsLabelled_any A bs c W0 (hA.below hb0) hrng hlen)
  have HB0 := Lib.hid hb0
  have HX0 := Lib.hid bx0
  have HW0 := Lib.hid hW0
  clear hb0 bx0 hW0 hA
  go_enter Tryz.func35, Tryz.ntmps35
  go_wp2_with fail
  rw [← HW0.out]
  (with_reducible refine H.out.mono ?_)
  rintro e w1 ⟨u, t, rfl, hD, hB⟩
  obtain ⟨AU, n, cU, AT, m, cT, rfl, rfl⟩ := hD.form
  have bx1 := (hB.block w.heap.size (by omega)).trans HX0.out
  have HD := Lib.hid hD
  have HB := Lib.hid hB
  have HX1 := Lib.hid bx1
  have f0 := frozen_of_row w1 _ 0 _ _ bx1
  have f1 := frozen_of_row w1 _ 1 _ _ bx1
  have s0 := cell_of_row w1 _ 0 _ _ _ bx1
  have s1 := cell_of_row w1 _ 1 _ _ _ bx1
  have hs1 := hB.size
  clear hD hB bx1
  go_wp2_with fail
  obtain ⟨hend, hk2⟩ := box_put (.slice AU n cU) (.slice AT m cT) HX1.out
  (try simp only [Exit.inBlock, Exit.then])
  refine bodyPost_ret (results_cell_row rfl _ _ w.heap.size _ #[.slice AU n cU, .slice AT m cT] _ _ rfl hend Tryz.underlying27 rfl (by kernel_rfl)) rfl ?_
  exact ⟨_, _, rfl, (HD.out.kept hk2 (fun q hq => by omega)).low (by omega), (HB0.out.trans (HB.out.mono (by omega))).trans (hk2.below (B := w.heap.size) (fun q hq => by omega) (by omega))⟩

end Go.Proofs.YtdgnhfhaaghoaaaGreatDoor
