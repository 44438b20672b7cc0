/- A labelled system drawn and two states of it: the draw of IsSimulated, TellApart. Slices of pairs: read, copied, compared, searched: the law package's helpers and the library walked. -/
import Derived.Test.YtdgnhfhaaghoaaaGreatDoorProg
import Derived.Test.YtdgnhfhaaghoaaaGreatDoorJ30
import Derived.Test.YtdgnhfhaaghoaaaGreatDoorJ3
import Derived.Test.YtdgnhfhaaghoaaaGreatDoorJ33
import Derived.Deep.CutBlock
import Derived.Test.YtdgnhfhaaghoaaaGreatDoorJ2
import Derived.Test.YtdgnhfhaaghoaaaGreatDoorJ7
import Derived.StillTailTactics
set_option linter.unusedSimpArgs false
set_option linter.unusedVariables false
namespace Go.Proofs.YtdgnhfhaaghoaaaGreatDoor
open Go.RowKit

/-- While the results of a draw are put into their places: the last number drawn (b3), the system in the result's box (b5). -/
structure SF (w0 : World) (p P Q : Nat) (A : Option Addr) (bs : List Int) (c : Nat) (U T : Value) (n : Nat) (x : Int) (b3 b5 : Bool) (W : World) : Prop where
  o : b5 = true → b3 = true
  k : Kept (fun q => q = p ∨ q = P) w0 W
  cur : b5 = false → b3 = false → Cur W p A bs c 2000
  box0 : b5 = false → W.heap[P]? = some (.cells #[.slice none 0 0, .slice none 0 0] 27)
  box1 : b5 = true → W.heap[P]? = some (.cells #[U, T] 27)
  lbx : W.heap[Q]? = some (.cells #[U, T] 27)
  rng : b3 = true → 0 ≤ x ∧ x < n
section
variable {w0 W W' : World} {p P Q c n : Nat} {A : Option Addr} {bs : List Int} {U T : Value} {x x' : Int} {b3 b5 : Bool}
theorem SF.start (hC : Cur w0 p A bs c 2000) (h0 : w0.heap[P]? = some (.cells #[.slice none 0 0, .slice none 0 0] 27)) (h1 : w0.heap[Q]? = some (.cells #[U, T] 27)) : SF w0 p P Q A bs c U T n x false false w0.drew :=
  { o := fun h => (nomatch h), k := (Kept.refl _ _).below' ((Below.refl _ _).drew), cur := fun _ _ => hC.below ((Below.refl _ _).drew), box0 := fun _ => h0, box1 := fun h => (nomatch h), lbx := h1, rng := fun h => (nomatch h) }
theorem SF.q (h : SF w0 p P Q A bs c U T n x false b5 W) : b5 = false := by
  cases b5; rfl; exact absurd (h.o rfl) (by simp)
theorem SF.pick (h : SF w0 p P Q A bs c U T n x false b5 W) (e5 : b5 = false) (hP : P ≠ p) (hQ : Q ≠ p) (hk : Kept (fun q => q = p) W W') (h0 : 0 ≤ x') (h1 : x' < n) : SF w0 p P Q A bs c U T n x' true b5 W' := by
  subst e5
  exact { o := fun h => (nomatch h), k := h.k.trans (hk.mono fun q hq => Or.inl hq), cur := fun _ h => (nomatch h), box0 := fun _ => (hk.block P (Array.getElem?_eq_some_iff.1 (h.box0 rfl)).1 hP).trans (h.box0 rfl), box1 := fun h => (nomatch h), lbx := (hk.block Q (Array.getElem?_eq_some_iff.1 h.lbx).1 hQ).trans h.lbx, rng := fun _ => ⟨h0, h1⟩ }
theorem SF.store (h : SF w0 p P Q A bs c U T n x true false W) (hQ : Q ≠ P) : SF w0 p P Q A bs c U T n x true true ((W.setCell ⟨P, 0, none⟩ U).setCell ⟨P, 1, none⟩ T) := by
  obtain ⟨h1, h2⟩ := box_put U T (h.box0 rfl)
  exact { o := fun _ => rfl, k := h.k.trans (h2.mono fun q hq => Or.inr hq), cur := fun h => (nomatch h), box0 := fun h => (nomatch h), box1 := fun _ => h1, lbx := (h2.block Q (Array.getElem?_eq_some_iff.1 h.lbx).1 hQ).trans h.lbx, rng := h.rng }
end

theorem l1MostD_any (a b : Int) (w : World) :
    Calls Tryz.prog 103 #[.int .i64 a, .int .i64 b] w fun e w' => e = .returned (.int .i64 (if b < a then a else b)) ∧ w = w' := by
  by_cases h : b < a
  · rw [if_pos h]
    go_enter Tryz.func103, Tryz.ntmps103
    go_wp2
    go_ret
    exact ⟨rfl, rfl⟩
  · rw [if_neg h]
    go_enter Tryz.func103, Tryz.ntmps103
    go_wp2
    go_ret
    exact ⟨rfl, rfl⟩

set_option maxRecDepth 100000 in
set_option maxHeartbeats 16000000 in
theorem drawIsSimulated_any (A : Option Addr) (bs : List Int) (c : Nat) (w : World) (hA : Cells w A (u8s bs)) (hrng : ∀ x ∈ bs, 0 ≤ x ∧ x < 256) (hlen : bs.length ≤ 1000000000000) :
    Calls Tryz.prog 50 #[.slice A bs.length c] w fun e w' => ∃ (u t : Value) (s z : Int), e = .returned (.tuple #[.agg #[u, t], .int .i64 s, .int .i64 z]) ∧ DLab w w' u t ∧ 0 ≤ s ∧ s ≤ 60 ∧ -1 ≤ z ∧ z ≤ 60 ∧ Below w.heap.size w w' := by
  obtain ⟨W0, hW0⟩ : ∃ W0, W0 = (w.alloc (.cells #[.slice none 0 0, .slice none 0 0] 27)).alloc (.cells #[.slice A bs.length c, .int .i64 0, .int .u64 0] 94) := ⟨_, rfl⟩
  have hb0 : Below w.heap.size w W0 := by rw [hW0]; exact ((Below.refl _ _).alloc (Nat.le_refl _) _).alloc (by simp) _
  have hs0 : W0.heap.size = w.heap.size + 1 + 1 := by rw [hW0]; simp
  have bx0 : W0.heap[w.heap.size]? = some (.cells #[.slice none 0 0, .slice none 0 0] 27) := by
    rw [hW0]
    exact (heap_alloc_old _ _ (by simp)).trans (heap_alloc_new _ _)
  have hC : Cur W0 (w.heap.size + 1) A bs c 0 := by
    have h := Cur.start (c := c) (hA.below (((Below.refl w.heap.size w).alloc (Nat.le_refl _) (.cells #[.slice none 0 0, .slice none 0 0] 27)))) hrng hlen
    rw [World.size_alloc] at h
    rw [hW0]; exact h
  have HC := Lib.hid hC
  have HB0 := Lib.hid hb0
  have HX0 := Lib.hid bx0
  have HW0 := Lib.hid hW0
  clear hC hb0 bx0 hW0 hA
  go_enter Tryz.func50, Tryz.ntmps50
  go_wp2_with fail
  rw [← HW0.out]
  (with_reducible refine (labelled_any (w.heap.size + 1) A bs c 0 W0 HC.out (by omega)).mono ?_)
  rintro e w1 ⟨u, t, rfl, ⟨l, hz, hT, hS⟩, hC1, hK1⟩
  obtain ⟨AU, cU, rfl⟩ : ∃ AU cU, u = .slice AU l.shows.length cU := by
    obtain ⟨vs, a, _⟩ := hT
    obtain ⟨AU, cU, e, _⟩ := owns_form a
    exact ⟨AU, cU, e⟩
  obtain ⟨AT, cT, rfl⟩ : ∃ AT cT, t = .slice AT l.steps.length cT := by
    obtain ⟨AT, cT, e, _⟩ := owns_form hS
    exact ⟨AT, cT, e⟩
  have hs1 := hK1.size
  have hz60 := hz.a
  have hbl := heap_alloc_new w1 (.cells #[.slice AU l.shows.length cU, .slice AT l.steps.length cT] 27)
  have hbel := (Below.refl w1.heap.size w1).alloc (Nat.le_refl _) (.cells #[.slice AU l.shows.length cU, .slice AT l.steps.length cT] 27)
  have s0 := cell_of_row _ _ 0 _ _ _ hbl
  have HC1 := Lib.hid (hC1.below hbel)
  have HT := Lib.hid hT
  have HS := Lib.hid hS
  have HK1 := Lib.hid hK1
  have HZ := Lib.hid hz
  clear hC1 hT hS hK1 hz hbl hbel
  go_wp2_with fail
  (with_reducible refine (l1MostD_any 1 (l.shows.length : Int) _).mono ?_)
  rintro e w2 ⟨rfl, rfl⟩
  obtain ⟨n, hn, hn1, hn60⟩ : ∃ n : Nat, (if (l.shows.length : Int) < 1 then (1 : Int) else (l.shows.length : Int)) = (n : Int) ∧ 1 ≤ n ∧ n ≤ 60 := by
    split
    · exact ⟨1, rfl, by omega, by omega⟩
    · exact ⟨l.shows.length, rfl, by omega, hz60⟩
  rw [hn]
  clear hn
  go_wp2_with fail
  (with_reducible refine (pick_any (w.heap.size + 1) A bs c _ (n : Int) _ HC1.out (by omega) (by omega)).mono ?_)
  rintro e w3 ⟨z, rfl, hz0, hz1, hC3, hK3⟩
  have hz1 : z < n := hz1 (by omega)
  have HC3 := Lib.hid hC3
  have HK3 := Lib.hid hK3
  have HO3 := Lib.hid (one_any (w.heap.size + 1) A bs c _ 24 w3 hC3 (by omega) (by omega))
  have hs3 := hK3.size
  clear hC3 hK3
  go_wp2_with fail
  (with_reducible refine HO3.out.mono ?_)
  rintro e w4 ⟨b, rfl, hC4, hK4⟩
  have HC4 := Lib.hid hC4
  have HK4 := Lib.hid hK4
  clear hC4 hK4
  go_upto_if 22 with fail
  have hs4 := HK4.out.size
  have hsA : (w1.alloc (.cells #[.slice AU l.shows.length cU, .slice AT l.steps.length cT] 27)).heap.size = w1.heap.size + 1 := by simp
  have HKA := Lib.hid (HK3.out.trans HK4.out)
  go_cut [8] from 23 (fun y wx => (∃ z : Int, y = .int .i64 z ∧ -1 ≤ z ∧ z ≤ 60) ∧ Cur wx (w.heap.size + 1) A bs c 2000 ∧ Kept (fun q => q = w.heap.size + 1) (w1.alloc (.cells #[.slice AU l.shows.length cU, .slice AT l.steps.length cT] 27)) wx)
  case first =>
    cases b
    · go_wp2_with fail
      go_meet
      case rel => exact ⟨⟨z, rfl, by omega, by omega⟩, HC4.out.mono (by omega), HKA.out⟩
    · have hb5 := (Below.refl w4.heap.size w4).alloc (Nat.le_refl _) (.cells (ints [-1, (n : Int)]).toArray 3)
      have h5 := among_any (w.heap.size + 1) A bs c _ (some ⟨w4.heap.size, 0, none⟩) 2 [-1, (n : Int)] _ (HC4.out.below hb5) (by omega) (by simp) (by simp) (cells_of_heap (heap_alloc_new _ _)) (fun b' o' e => by cases e; omega)
      have H5 := Lib.hid (show Calls Tryz.prog 104 #[.pointer (some ⟨w.heap.size + 1, 0, none⟩), .slice (some ⟨w4.heap.size, 0, none⟩) 2 2] (w4.alloc (.cells #[.int .i64 (-1), .int .i64 (n : Int)] 3)) _ from h5)
      have HB5 := Lib.hid (show Below w4.heap.size w4 (w4.alloc (.cells #[.int .i64 (-1), .int .i64 (n : Int)] 3)) from hb5)
      clear h5 hb5
      go_wp2_with fail
      (with_reducible refine H5.out.mono ?_)
      rintro e w6 ⟨y, rfl, hy, hC6, hK6⟩
      have hy : -1 ≤ y ∧ y ≤ 60 := by
        simp only [List.mem_cons, List.not_mem_nil, or_false] at hy
        rcases hy with rfl | rfl <;> omega
      have HC6 := Lib.hid hC6
      have HK6 := Lib.hid ((HKA.out.below' HB5.out).trans hK6)
      clear hC6 hK6
      go_wp2_with fail
      go_meet
      case rel => exact ⟨⟨y, rfl, hy.1, hy.2⟩, HC6.out.mono (by omega), HK6.out⟩
  case rest =>
    obtain ⟨⟨y, rfl, hy0, hy60⟩, hC, hK⟩ := hcut
    have HK5 := Lib.hid hK
    have hs5 := hK.size
    have hbx0 : wc.heap[w.heap.size]? = some (.cells #[.slice none 0 0, .slice none 0 0] 27) := by
      have e1 := (HK1.out.block w.heap.size (by omega) (by omega)).trans HX0.out
      have e2 := (heap_alloc_old w1 (.cells #[.slice AU l.shows.length cU, .slice AT l.steps.length cT] 27) (show w.heap.size < w1.heap.size by omega)).trans e1
      exact (hK.block w.heap.size (by simp; omega) (by omega)).trans e2
    have hbx1 : wc.heap[w1.heap.size]? = some (.cells #[.slice AU l.shows.length cU, .slice AT l.steps.length cT] 27) := (hK.block w1.heap.size (by simp) (by omega)).trans (heap_alloc_new _ _)
    have HSF := Lib.hid (SF.start (x := 0) (n := n) (P := w.heap.size) hC hbx0 hbx1)
    clear hC hK hbx0 hbx1
    go_upto_region 7 with fail
    refine wp_region_inv (by kernel_rfl) (fun L act W => ∃ (x : Int), act = ⟨#[Value.slice A bs.length c, undef, Value.pointer (some ⟨w.heap.size, 0, none⟩), bsel (L 6) (.int .i64 x) (Value.int IntKind.i64 0), bsel (L 7) (.int .i64 y) (Value.int IntKind.i64 0), Value.pointer (some ⟨w.heap.size + 1, 0, none⟩), Value.pointer (some ⟨w1.heap.size, 0, none⟩), Value.int IntKind.i64 (n : Int), Value.int IntKind.i64 y, Value.slice A bs.length c, Value.agg #[Value.slice A bs.length c, Value.int IntKind.i64 0, Value.int IntKind.u64 0], Value.pointer (some ⟨w.heap.size + 1, 0, none⟩), Value.pointer (some ⟨w.heap.size + 1, 0, none⟩), Value.agg #[Value.slice AU l.shows.length cU, Value.slice AT l.steps.length cT], Value.pointer (some ⟨w1.heap.size, 0, none⟩), Value.slice AU l.shows.length cU, Value.int IntKind.i64 (l.shows.length : Int), Value.int IntKind.i64 (n : Int), Value.pointer (some ⟨w.heap.size + 1, 0, none⟩), Value.int IntKind.i64 (n : Int), Value.int IntKind.i64 z, Value.pointer (some ⟨w.heap.size + 1, 0, none⟩), Value.bool b, u23, u24, u25, u26, bsel (L 0) (.agg #[.slice AU l.shows.length cU, .slice AT l.steps.length cT]) (u27), bsel (L 1) (.pointer (some ⟨w.heap.size + 1, 0, none⟩)) (u28), bsel (L 2) (.int .i64 (n : Int)) (u29), bsel (L 3) (.int .i64 x) (u30), bsel (L 4) (.int .i64 y) (u31)], []⟩ ∧ (L 6 = true → L 3 = true) ∧ SF wc (w.heap.size + 1) w.heap.size w1.heap.size A bs c (.slice AU l.shows.length cU) (.slice AT l.steps.length cT) n x (L 3) (L 5) W) ?h0 ?step ?fin
    case h0 => exact ⟨0, rfl, fun h => absurd h Bool.false_ne_true, HSF.out⟩
    case step =>
      intro L act W q oo hJ hL ho hd K3 hK3
      obtain ⟨x, rfl, hI0, hF⟩ := hJ
      match q, ho with
      | 0, ho =>
        simp only [List.getElem?_toArray, List.getElem?_cons_zero, List.getElem?_cons_succ, Option.some.injEq] at ho
        subst ho
        simp [Region.binds] at hd
        have s0 := cell_of_row W _ 0 _ _ _ hF.lbx
        have s1 := cell_of_row W _ 1 _ _ _ hF.lbx
        try simp only [hd, bsel_t]
        have HF := Lib.hid hF
        clear hF
        have HQI0 := Lib.hid hI0
        clear hI0
        go_simp
        exact hK3 _ _ ⟨x, by first | (simp [upd, bsel]; done) | simp [upd, bsel, hd], by simpa [upd] using HQI0.out, HF.out⟩
      | 1, ho =>
        simp only [List.getElem?_toArray, List.getElem?_cons_zero, List.getElem?_cons_succ, Option.some.injEq] at ho
        subst ho
        simp [Region.binds] at hd
        try simp only [hd, bsel_t]
        have HF := Lib.hid hF
        clear hF
        have HQI0 := Lib.hid hI0
        clear hI0
        go_simp
        exact hK3 _ _ ⟨x, by first | (simp [upd, bsel]; done) | simp [upd, bsel, hd], by simpa [upd] using HQI0.out, HF.out⟩
      | 2, ho =>
        simp only [List.getElem?_toArray, List.getElem?_cons_zero, List.getElem?_cons_succ, Option.some.injEq] at ho
        subst ho
        simp [Region.binds] at hd
        try simp only [hd, bsel_t]
        have HF := Lib.hid hF
        clear hF
        have HQI0 := Lib.hid hI0
        clear hI0
        go_simp
        exact hK3 _ _ ⟨x, by first | (simp [upd, bsel]; done) | simp [upd, bsel, hd], by simpa [upd] using HQI0.out, HF.out⟩
      | 3, ho =>
        simp only [List.getElem?_toArray, List.getElem?_cons_zero, List.getElem?_cons_succ, Option.some.injEq] at ho
        subst ho
        simp [Region.binds] at hd
        have hz0 : L 6 = false := by
          cases e : L 6
          · rfl
          · exact absurd (hI0 e) (by simp [hL])
        rw [hL] at hF
        simp only [hd, bsel_t]
        have HF := Lib.hid hF
        clear hF
        have E5 := Lib.hid HF.out.q
        have HQI0 := Lib.hid hI0
        clear hI0
        go_simp
        go_at_call 102
        (with_reducible refine (pick_any (w.heap.size + 1) A bs c 2000 (n : Int) W (HF.out.cur E5.out rfl) (by omega) (by omega)).mono ?_)
        rintro e W' ⟨x', rfl, hx0, hx1, hC', hk'⟩
        have hx1 : x' < n := hx1 (by omega)
        have HF := Lib.hid (HF.out.pick E5.out (by omega) (by omega) hk' hx0 hx1)
        clear hC' hk' E5
        go_simp
        exact hK3 _ _ ⟨x', by simp [upd, bsel, hd, hz0], by simp [upd], by simpa [upd, hd] using HF.out⟩
      | 4, ho =>
        simp only [List.getElem?_toArray, List.getElem?_cons_zero, List.getElem?_cons_succ, Option.some.injEq] at ho
        subst ho
        simp [Region.binds] at hd
        try simp only [hd, bsel_t]
        have HF := Lib.hid hF
        clear hF
        have HQI0 := Lib.hid hI0
        clear hI0
        go_simp
        exact hK3 _ _ ⟨x, by simp [upd, bsel, hd], by simpa [upd] using HQI0.out, HF.out⟩
      | 5, ho =>
        simp only [List.getElem?_toArray, List.getElem?_cons_zero, List.getElem?_cons_succ, Option.some.injEq] at ho
        subst ho
        simp [Region.binds] at hd
        rw [hL] at hF
        have hb0 := hF.box0 rfl
        have s0 := cell_of_row W _ 0 _ _ _ hb0
        have s1 := cell_of_row W _ 1 _ _ _ hb0
        have f0 := frozen_of_row W _ 0 _ _ hb0
        have f1 := frozen_of_row W _ 1 _ _ hb0
        clear hb0
        have d3 : L 3 = true := by simp [hd]
        rw [d3] at hF
        simp only [hd, bsel_t]
        have HF := Lib.hid (hF.store (by omega))
        clear hF
        have HQI0 := Lib.hid hI0
        clear hI0
        go_simp
        exact hK3 _ _ ⟨x, by simp [upd, bsel, hd], by simpa [upd, d3] using HF.out⟩
      | 6, ho =>
        simp only [List.getElem?_toArray, List.getElem?_cons_zero, List.getElem?_cons_succ, Option.some.injEq] at ho
        subst ho
        simp [Region.binds] at hd
        try simp only [hd, bsel_t]
        have HF := Lib.hid hF
        clear hF
        have HQI0 := Lib.hid hI0
        clear hI0
        go_simp
        exact hK3 _ _ ⟨x, by simp [upd, bsel, hd], by simp [upd, hd], HF.out⟩
      | 7, ho =>
        simp only [List.getElem?_toArray, List.getElem?_cons_zero, List.getElem?_cons_succ, Option.some.injEq] at ho
        subst ho
        simp [Region.binds] at hd
        try simp only [hd, bsel_t]
        have HF := Lib.hid hF
        clear hF
        have HQI0 := Lib.hid hI0
        clear hI0
        go_simp
        exact hK3 _ _ ⟨x, by simp [upd, bsel, hd], by simpa [upd] using HQI0.out, HF.out⟩
      | q + 8, ho => simp at ho
    case fin =>
      intro L act W hJ hfin
      obtain ⟨x, rfl, hI0, hF⟩ := hJ
      have l0 : L 0 = true := by
        cases e : L 0
        · have x := hfin 0 _ rfl e
          simp [Region.binds] at x
        · rfl
      have l1 : L 1 = true := by
        cases e : L 1
        · have x := hfin 1 _ rfl e
          simp [Region.binds, l0] at x
        · rfl
      have l2 : L 2 = true := by
        cases e : L 2
        · have x := hfin 2 _ rfl e
          simp [Region.binds, l0, l1] at x
        · rfl
      have l3 : L 3 = true := by
        cases e : L 3
        · have x := hfin 3 _ rfl e
          simp [Region.binds, l0, l1, l2] at x
        · rfl
      have l4 : L 4 = true := by
        cases e : L 4
        · have x := hfin 4 _ rfl e
          simp [Region.binds, l0, l1, l2, l3] at x
        · rfl
      have l5 : L 5 = true := by
        cases e : L 5
        · have x := hfin 5 _ rfl e
          simp [Region.binds, l0, l1, l2, l3, l4] at x
        · rfl
      have l6 : L 6 = true := by
        cases e : L 6
        · have x := hfin 6 _ rfl e
          simp [Region.binds, l0, l1, l2, l3, l4, l5] at x
        · rfl
      have l7 : L 7 = true := by
        cases e : L 7
        · have x := hfin 7 _ rfl e
          simp [Region.binds, l0, l1, l2, l3, l4, l5, l6] at x
        · rfl
      simp only [l0, l1, l2, l3, l4, l5, l6, l7, bsel_t]
      have hend := (hF.box1 l5)
      have hk := hF.k
      have hr := hF.rng l3
      have HE := Lib.hid hend
      have HK9 := Lib.hid hk
      clear hend hk hF hfin hI0 l0 l1 l2 l3 l4 l5 l6 l7
      go_wp2_with fail
      (try simp only [Exit.inBlock, Exit.then])
      refine bodyPost_ret (results_cell_row3 rfl _ _ w.heap.size _ _ _ _ rfl HE.out Tryz.underlying27 rfl (by kernel_rfl)) rfl ?_
      have hKa := (Kept.of_below ((Below.refl w1.heap.size w1).alloc (Nat.le_refl _) (.cells #[.slice AU l.shows.length cU, .slice AT l.steps.length cT] 27)) (fun q => q = w.heap.size + 1 ∨ q = w.heap.size)).trans ((HK5.out.mono (fun q hq => Or.inl hq)).trans HK9.out)
      have hD : DLab W0 w1 (.slice AU l.shows.length cU) (.slice AT l.steps.length cT) := ⟨l, HZ.out, HT.out, HS.out⟩
      have hD9 := hD.kept hKa (fun q hq => by omega)
      exact ⟨_, _, x, y, rfl, hD9.low (by omega), hr.1, by omega, hy0, hy60, (HB0.out.trans (HK1.out.below (B := w.heap.size) (fun q hq => by omega) (by omega))).trans (hKa.below (B := w.heap.size) (fun q hq => by omega) (by omega))⟩

end Go.Proofs.YtdgnhfhaaghoaaaGreatDoor

set_option linter.unusedVariables false
namespace Go.Proofs.YtdgnhfhaaghoaaaGreatDoor
open Go.RowKit

abbrev I2 := Int × Int
def duo (t : I2) : List Value := [.int .i64 t.1, .int .i64 t.2]
def RA2 (w : World) (v : Value) (l : List I2) : Prop := ∃ A c, v = .slice A l.length c ∧ l.length ≤ maxLen ∧ Cells w A (l.flatMap duo)
theorem RA2.below {w w' : World} {v : Value} {l : List I2} (h : RA2 w v l) (hb : Below w.heap.size w w') : RA2 w' v l := by
  obtain ⟨A, c, e, hm, hc⟩ := h
  exact ⟨A, c, e, hm, hc.below hb⟩
theorem duo_at (l : List I2) : ∀ (k : Nat) (t : I2), l[k]? = some t → (l.flatMap duo)[k * 2]? = some (.int .i64 t.1) ∧ (l.flatMap duo)[k * 2 + 1]? = some (.int .i64 t.2) := by
  induction l with
  | nil => intro k t h; simp at h
  | cons a r ih =>
    intro k t h
    cases k with
    | zero =>
      simp at h
      subst h
      simp [duo]
    | succ k =>
      have := ih k t (by simpa using h)
      have e0 : (k + 1) * 2 = k * 2 + 2 := by omega
      have e1 : k * 2 + 2 + 1 = k * 2 + 1 + 2 := by omega
      rw [e0, e1]
      simp only [List.flatMap_cons, duo]
      exact this
theorem RA2.at_ {w : World} {v : Value} {l : List I2} (h : RA2 w v l) {k : Nat} {t : I2} (hk : l[k]? = some t) :
    ∃ b o c, v = .slice (some ⟨b, o, none⟩) l.length c ∧ w.cell? ⟨b, o + k * 2, none⟩ = some (.int .i64 t.1) ∧ w.cell? ⟨b, o + k * 2 + 1, none⟩ = some (.int .i64 t.2) := by
  obtain ⟨A, c, rfl, _, hc⟩ := h
  obtain ⟨h0, h1⟩ := duo_at l k t hk
  obtain ⟨b, o, rfl, hcc⟩ := hc.at_ (List.getElem?_eq_some_iff.1 h0).1
  exact ⟨b, o, c, rfl, hcc _ _ h0, hcc _ _ h1⟩
set_option maxRecDepth 100000 in
set_option maxHeartbeats 1000000 in
theorem indexFuncD_any (v : Value) (l : List I2) (F : FuncId) (cap : Array Value) (p : Nat → Bool) (w : World) (hn : l.length ≤ 16777216) (hv : RA2 w v l)
    (hF : ∀ (args : Array Value) (w : World), (callFunc F args).run Tryz.prog w = .ok (.enter F args) w)
    (hcall : ∀ (k : Nat) (x : I2) (W : World), l[k]? = some x → Below w.heap.size w W → Calls Tryz.prog F (#[.agg #[.int .i64 x.1, .int .i64 x.2]] ++ cap) W fun e W' => e = .returned (.bool (p k)) ∧ Below W.heap.size W W') :
    Calls Tryz.prog 166 #[v, .func (.func F) #[] cap] w fun e w' => e = .returned (.int .i64 (idxR l.length p)) ∧ Below w.heap.size w w' := by
  have HC := Lib.hid hcall
  have HV := Lib.hid (show ∀ W, Below w.heap.size w W → RA2 W v l from fun W hb => hv.below hb)
  obtain ⟨A, c, rfl, hm, _⟩ := hv
  clear hcall hm
  go_enter Tryz.func166, Tryz.ntmps166
  go_wp2_with fail
  go_loopw [8] (fun i wr => ∃ k : Nat, k ≤ l.length ∧ i = .int .i64 k ∧ (∀ j, j < k → p j = false) ∧ Below w.heap.size w wr)
    (fun i _ => l.length - (intOf i).toNat)
  case atStart => exact ⟨0, Nat.zero_le _, rfl, fun j hj => by omega, Below.refl _ _⟩
  case round =>
    obtain ⟨k, hk, rfl, hall, hbel⟩ := hrel
    have HALL := Lib.hid hall
    clear hall
    by_cases hlt : k < l.length
    · obtain ⟨b, o, c', ev, k0, k1⟩ := (HV.out wr hbel).at_ (List.getElem?_eq_getElem hlt)
      cases ev
      have H := Lib.hid (HC.out k _ wr (List.getElem?_eq_getElem hlt) hbel)
      generalize l[k] = x at *
      have HB := Lib.hid hbel
      clear hbel
      cases hp : p k
      · have HN := Lib.hid (none_next HALL.out hp)
        rw [hp] at H
        clear hp
        go_wp2_with ((with_reducible refine H.out.mono ?_); rintro e w1 ⟨rfl, hb1⟩)
        go_roundw
        case rel => exact ⟨k + 1, by omega, by go_num, HN.out, HB.out.trans (hb1.mono HB.out.size)⟩
        case measure => simp [intOf]; omega
      · have HE := Lib.hid (idxR_some hlt HALL.out hp)
        rw [hp] at H
        clear hp
        go_wp2_with ((with_reducible refine H.out.mono ?_); rintro e w1 ⟨rfl, hb1⟩)
        go_ret
        exact ⟨by rw [HE.out]; rfl, HB.out.trans (hb1.mono HB.out.size)⟩
    · obtain rfl : k = l.length := by omega
      have HE := Lib.hid (idxR_none HALL.out)
      go_wp2
      go_ret
      exact ⟨by rw [HE.out]; rfl, hbel⟩

set_option maxHeartbeats 1000000 in
theorem containsFuncD_any (v : Value) (l : List I2) (F : FuncId) (cap : Array Value) (p : Nat → Bool) (w : World) (hn : l.length ≤ 16777216) (hv : RA2 w v l)
    (hF : ∀ (args : Array Value) (w : World), (callFunc F args).run Tryz.prog w = .ok (.enter F args) w)
    (hcall : ∀ (k : Nat) (x : I2) (W : World), l[k]? = some x → Below w.heap.size w W → Calls Tryz.prog F (#[.agg #[.int .i64 x.1, .int .i64 x.2]] ++ cap) W fun e W' => e = .returned (.bool (p k)) ∧ Below W.heap.size W W') :
    Calls Tryz.prog 105 #[v, .func (.func F) #[] cap] w fun e w' => e = .returned (.bool (anyR l.length p)) ∧ Below w.heap.size w w' := by
  have H := Lib.hid (indexFuncD_any v l F cap p w hn hv hF hcall)
  have HI := Lib.hid (idxR_any l.length p)
  obtain ⟨A, c, rfl, hm, _⟩ := hv
  clear hF hcall hm
  go_enter Tryz.func105, Tryz.ntmps105
  go_wp2_with ((with_reducible refine H.out.mono ?_); rintro e w1 ⟨rfl, hb1⟩)
  go_ret
  exact ⟨by rw [← HI.out]; rfl, hb1⟩

end Go.Proofs.YtdgnhfhaaghoaaaGreatDoor
