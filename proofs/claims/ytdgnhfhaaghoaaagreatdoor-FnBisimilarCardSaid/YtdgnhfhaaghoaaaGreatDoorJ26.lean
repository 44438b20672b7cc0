/- Labelled systems: the saturated system, and the quotient. Plain law: program and reference list the same. Numbers sorted: slices.Sort; either walked. -/
import Derived.Test.YtdgnhfhaaghoaaaGreatDoorJ25
import Derived.Test.YtdgnhfhaaghoaaaGreatDoorProg
import Derived.Test.YtdgnhfhaaghoaaaGreatDoorJ5
import Derived.Test.YtdgnhfhaaghoaaaGreatDoorJ24
import Derived.Sort.OwnSortedInts
set_option linter.unusedSimpArgs false
set_option linter.unusedVariables false
namespace Go.Proofs.YtdgnhfhaaghoaaaGreatDoor

/-- Numbers of a second list put to a first one. -/
def unionI (a b : List Int) : List Int := b.foldl putI a
theorem union_fold : ∀ (b a : List Int), a.Pairwise (· < ·) → (unionI a b).Pairwise (· < ·) ∧ ∀ x, x ∈ unionI a b ↔ x ∈ a ∨ x ∈ b
  | [], a, h => ⟨h, fun x => by simp [unionI]⟩
  | y :: b, a, h => by
    obtain ⟨h1, h2⟩ := union_fold b (putI a y) (putI_sorted y h)
    refine ⟨h1, fun x => ?_⟩
    have := h2 x
    unfold unionI at this ⊢
    rw [List.foldl_cons, this, putI_mem, List.mem_cons]
    constructor
    · rintro ((h | h) | h)
      · exact .inl h
      · exact .inr (.inl h)
      · exact .inr (.inr h)
    · rintro (h | h | h)
      · exact .inl (.inl h)
      · exact .inl (.inr h)
      · exact .inr h
theorem union_of {a b o : List Int} (ha : a.Pairwise (· < ·)) (ho : o.Pairwise (· < ·)) (hm : ∀ x, x ∈ o ↔ x ∈ a ∨ x ∈ b) : o = unionI a b :=
  sorted_eq ho (union_fold b a ha).1 fun x => (hm x).trans ((union_fold b a ha).2 x).symm

def unionsI (sh : List (List Int)) (ts : List Int) (o : List Int) : List Int := ts.foldl (fun o t => unionI o (sh.getD t.toNat [])) o
theorem unions_fold (sh : List (List Int)) : ∀ (ts o : List Int), o.Pairwise (· < ·) → (unionsI sh ts o).Pairwise (· < ·) ∧ ∀ x, x ∈ unionsI sh ts o ↔ x ∈ o ∨ ∃ t ∈ ts, x ∈ sh.getD t.toNat []
  | [], o, h => ⟨h, fun x => by simp [unionsI]⟩
  | t :: ts, o, h => by
    obtain ⟨a1, a2⟩ := union_fold (sh.getD t.toNat []) o h
    obtain ⟨h1, h2⟩ := unions_fold sh ts _ a1
    refine ⟨h1, fun x => ?_⟩
    have := h2 x
    unfold unionsI at this ⊢
    rw [List.foldl_cons, this, a2 x]
    constructor
    · rintro ((h | h) | ⟨u, hu, h⟩)
      · exact .inl h
      · exact .inr ⟨t, by simp, h⟩
      · exact .inr ⟨u, by simp [hu], h⟩
    · rintro (h | ⟨u, hu, h⟩)
      · exact .inl (.inl h)
      · rcases List.mem_cons.1 hu with rfl | hu
        · exact .inl (.inr h)
        · exact .inr ⟨u, hu, h⟩
/-- The marks of a state: of all states to which silent ways lead. -/
def progShow (n : Nat) (sh : List (List Int)) (ss : List I3) (i : Nat) : List Int := unionsI sh (waysR n ss i) []
def silL (n : Nat) (ss : List I3) (i : Nat) : List Int := ((List.range n).filter fun j => silF n ss i j).map fun (j : Nat) => (j : Int)
def specShow (n : Nat) (sh : List (List Int)) (ss : List I3) (i : Nat) : List Int := unionsI sh (silL n ss i) []
theorem show_same {n : Nat} {sh : List (List Int)} {ss : List I3} (h : StepsN n ss) {i : Nat} (hi : i < n) : specShow n sh ss i = progShow n sh ss i := by
  obtain ⟨a1, a2⟩ := unions_fold sh (silL n ss i) [] List.Pairwise.nil
  obtain ⟨b1, b2⟩ := unions_fold sh (waysR n ss i) [] List.Pairwise.nil
  refine sorted_eq a1 b1 fun x => ?_
  show x ∈ unionsI sh (silL n ss i) [] ↔ x ∈ unionsI sh (waysR n ss i) []
  rw [a2 x, b2 x]
  simp only [List.not_mem_nil, false_or]
  constructor
  · rintro ⟨t, ht, hx⟩
    unfold silL at ht
    simp only [List.mem_map, List.mem_filter, List.mem_range] at ht
    obtain ⟨j, ⟨hj, hf⟩, rfl⟩ := ht
    exact ⟨(j : Int), (sil_iff h hi hj).1 hf, hx⟩
  · rintro ⟨t, ht, hx⟩
    obtain ⟨j, rfl, hj⟩ := ways_inN h hi t ht
    refine ⟨(j : Int), ?_, hx⟩
    unfold silL
    simp only [List.mem_map, List.mem_filter, List.mem_range]
    exact ⟨j, ⟨hj, (sil_iff h hi hj).2 ht⟩, rfl⟩

def satL (l : Lab) : Lab := ⟨(List.range l.shows.length).map (progShow l.shows.length l.shows l.steps), sortT (progSat l.shows.length l.steps)⟩
theorem satL_len (l : Lab) : (satL l).shows.length = l.shows.length := by simp [satL]
theorem prog_steps {n : Nat} {ss : List I3} (h : StepsN n ss) (ha : ∀ s ∈ ss, 0 ≤ s.2.1 ∧ s.2.1 < 8) : ∀ x ∈ progSat n ss, (∃ i j : Nat, x.1 = (i : Int) ∧ x.2.2 = (j : Int) ∧ i < n ∧ j < n) ∧ 0 ≤ x.2.1 ∧ x.2.1 < 8 := by
  intro x hx
  unfold progSat at hx
  simp only [List.mem_flatMap, List.mem_map, List.mem_filter, List.mem_range, List.mem_cons] at hx
  obtain ⟨i, hi, t, ht, h1 | ⟨s, ⟨hs, h1⟩, e, he, rfl⟩⟩ := hx
  · subst h1
    obtain ⟨j, rfl, hj⟩ := ways_inN h hi t ht
    exact ⟨⟨i, j, rfl, rfl, hi, hj⟩, by simp, by simp⟩
  · obtain ⟨u, v, hu, hv, hun, hvn⟩ := h s hs
    have h2 : s.2.2.toNat = v := by omega
    rw [h2] at he
    obtain ⟨j, rfl, hj⟩ := ways_inN h hvn e he
    exact ⟨⟨i, j, rfl, rfl, hi, hj⟩, ha s hs⟩
theorem satL_steps {l : Lab} (h : StepsN l.shows.length l.steps) (ha : ∀ s ∈ l.steps, 0 ≤ s.2.1 ∧ s.2.1 < 8) : StepsN (satL l).shows.length (satL l).steps ∧ ∀ s ∈ (satL l).steps, 0 ≤ s.2.1 ∧ s.2.1 < 8 := by
  rw [satL_len]
  constructor
  · intro s hs
    exact (prog_steps h ha s ((sortT_mem _ _).1 hs)).1
  · intro s hs
    exact (prog_steps h ha s ((sortT_mem _ _).1 hs)).2

/-! The quotient. -/

end Go.Proofs.YtdgnhfhaaghoaaaGreatDoor

set_option linter.unusedVariables false
namespace Go.Proofs.YtdgnhfhaaghoaaaGreatDoor
open Go.RowKit
open Go.Sort (grow)

theorem sortI_any (g c : Nat) (zs : List Int) (B : Nat) (w : World) (hn : zs.length ≤ 16777216) (h : w.ownsRow B 3 1 (.slice (some ⟨g, 0, none⟩) zs.length c) zs.length (ints zs)) :
    Calls Tryz.prog 153 #[.slice (some ⟨g, 0, none⟩) zs.length c] w fun e w' => e = .returned (.tuple #[]) ∧
      w'.ownsRow B 3 1 (.slice (some ⟨g, 0, none⟩) zs.length c) zs.length (ints (zs.mergeSort fun x y => decide (x ≤ y))) ∧ w.grownBy w' (some g) := by
  rcases h.2 with ⟨e, _⟩ | ⟨g', cap, cur, e, hb, hg, h1, h2, h3, h4⟩
  · cases e
  · cases e
    have h4' : cur.toList.take zs.length = zs.map (Value.int .i64) := by simpa using h4
    refine (Any.slices_Sort_int Tryz.lays189 g 0 c zs w (holds_of_blockI hg h4') (Array.getElem?_eq_some_iff.1 hg).1 (by omega)).mono ?_
    rintro e w' ⟨rfl, n, os, rfl⟩
    refine ⟨rfl, ?_, grownBy_sortedI _⟩
    exact ownsRow_sortedI (by simp [List.length_mergeSort]) hb hg h1 h2 h3

set_option maxRecDepth 100000 in
set_option maxHeartbeats 2000000 in
theorem insI_none (w : World) : Calls Tryz.prog 185 #[.slice none 0 0, .int .i64 0, .int .i64 0] w fun e w' => e = .returned (.tuple #[]) ∧ w = w' := by
  go_enter Tryz.func185, Tryz.ntmps185
  go_wp2_with fail
  go_loop [6] (fun i => i = .int .i64 1) (fun _ => 0)
  case atStart => exact rfl
  case round =>
    obtain rfl := hrel
    go_wp2_with fail
    go_end0
    exact ⟨rfl, rfl⟩

set_option maxRecDepth 100000 in
set_option maxHeartbeats 2000000 in
theorem pdqI_none (n : Int) (w : World) : Calls Tryz.prog 178 #[.slice none 0 0, .int .i64 0, .int .i64 0, .int .i64 n] w fun e w' => e = .returned (.tuple #[]) ∧ w = w' := by
  have H := Lib.hid (fun w => insI_none w)
  go_enter Tryz.func178, Tryz.ntmps178
  go_wp2_with fail
  go_loop [1, 2] (fun a b => a = .int .i64 0 ∧ b = .int .i64 0) (fun _ _ => 0)
  case atStart => exact ⟨rfl, rfl⟩
  case round =>
    obtain ⟨rfl, rfl⟩ := hrel
    go_wp2_with ((with_reducible refine (H.out _).mono ?_); rintro e w1 ⟨rfl, rfl⟩)
    exact bodyPost_ret (v := .tuple #[]) (by simp [results, Tryz.results178, go_sem]) rfl ⟨rfl, rfl⟩

set_option maxRecDepth 100000 in
set_option maxHeartbeats 2000000 in
theorem bitsLen_zero (w : World) : Calls Tryz.prog 179 #[.int .u64 0] w fun e w' => (∃ n, e = .returned (.int .i64 n)) ∧ w = w' := by
  go_enter Tryz.func179, Tryz.ntmps179
  go_wp2
  go_ret
  exact ⟨⟨_, rfl⟩, rfl⟩

set_option maxRecDepth 100000 in
set_option maxHeartbeats 2000000 in
theorem sortI_none (w : World) : Calls Tryz.prog 153 #[.slice none 0 0] w fun e w' => e = .returned (.tuple #[]) ∧ w = w' := by
  have H := Lib.hid (fun n w => pdqI_none n w)
  have H2 := Lib.hid (fun w => bitsLen_zero w)
  go_enter Tryz.func153, Tryz.ntmps153
  go_wp2_with (first | (go_at_call 179; refine (H2.out _).mono ?_; rintro e w1 ⟨⟨n, rfl⟩, rfl⟩) | (go_at_call 178; refine (H.out _ _).mono ?_; rintro e w1 ⟨rfl, rfl⟩))
  go_end0
  exact ⟨rfl, rfl⟩

/-- What either gives: strictly in order, the numbers of both. -/
def EitherL (xs ys o : List Int) : Prop := o.Pairwise (· < ·) ∧ ∀ x, x ∈ o ↔ x ∈ xs ∨ x ∈ ys

theorem sortI_comp {l : List Int} : (compC 0 (l.mergeSort fun x y => decide (x ≤ y)) l.length).Pairwise (· < ·) ∧ ∀ x, x ∈ compC 0 (l.mergeSort fun x y => decide (x ≤ y)) l.length ↔ x ∈ l := by
  have hp : (l.mergeSort fun x y => decide (x ≤ y)).Perm l := List.mergeSort_perm _ _
  have hs : (l.mergeSort fun x y => decide (x ≤ y)).Pairwise (· ≤ ·) := by
    have := List.pairwise_mergeSort (le := fun x y : Int => decide (x ≤ y)) (fun a b c h1 h2 => by simp at *; omega) (fun a b => by simp; omega) l
    exact this.imp (fun h => by simpa using h)
  have hl := hp.length_eq
  generalize (l.mergeSort fun x y => decide (x ≤ y)) = m at *
  rw [← hl]
  refine ⟨compC_strict (R := (· ≤ ·)) (fun a b h1 h2 => by omega) (fun a b c h1 h2 => by omega) hs (fun a => Int.le_refl a), fun x => ?_⟩
  rw [compC_mem]
  exact hp.mem_iff

set_option maxRecDepth 100000 in
set_option maxHeartbeats 4000000 in
theorem either_any (A1 A2 : Option Addr) (c1 c2 : Nat) (xs ys : List Int) (w : World) (hn : xs.length + ys.length ≤ 1000000) (h1 : Cells w A1 (ints xs)) (h2 : Cells w A2 (ints ys)) :
    Calls Tryz.prog 86 #[.slice A1 xs.length c1, .slice A2 ys.length c2] w fun e w' => ∃ r o, e = .returned r ∧ EitherL xs ys o ∧ w'.ownsRow w.heap.size 3 1 r o.length (ints o) ∧ Below w.heap.size w w' := by
  have hb0 : Below w.heap.size w (w.alloc (.cells #[.slice A1 xs.length c1, .slice A2 ys.length c2] 30)) := (Below.refl _ _).alloc (Nat.le_refl _) _
  have hrow : RVS (w.alloc (.cells #[.slice A1 xs.length c1, .slice A2 ys.length c2] 30)) (.slice (some ⟨w.heap.size, 0, none⟩) 2 2) [ints xs, ints ys] := by
    refine ⟨_, _, [.slice A1 xs.length c1, .slice A2 ys.length c2], rfl, rfl, fun j u hj => ⟨w.heap.size, 0, rfl, ?_⟩, fun i u zs hu hz => ?_⟩
    · rw [Nat.zero_add, cell_of_row _ _ _ _ _ _ (heap_alloc_new _ _)]
      simpa using hj
    · match i, hu, hz with
      | 0, hu, hz => simp at hu hz; subst hu; subst hz; exact ⟨A1, c1, by simp [ints], h1.below hb0⟩
      | 1, hu, hz => simp at hu hz; subst hu; subst hz; exact ⟨A2, c2, by simp [ints], h2.below hb0⟩
      | k + 2, hu, _ => simp at hu
  have hfl : ([ints xs, ints ys] : List (List Value)).flatten = ints (xs ++ ys) := by simp [ints]
  have hlen : (ints (xs ++ ys)).length = (xs ++ ys).length := by simp [ints]
  have HC0 := concatI_any _ [ints xs, ints ys] _ (by simp) (by rw [hfl, hlen, List.length_append]; exact hn) (by rw [hfl]; exact ints_one _) hrow
  rw [hfl, hlen] at HC0
  have HC := Lib.hid HC0
  have HB0 := Lib.hid hb0
  have hxy : (xs ++ ys).length ≤ 1000000 := by rw [List.length_append]; exact hn
  have HM := Lib.hid (show ∀ x, x ∈ xs ++ ys ↔ x ∈ xs ∨ x ∈ ys from fun x => List.mem_append)
  clear hb0 hrow hfl hlen HC0 h1 h2
  generalize xs ++ ys = zs at *
  go_enter Tryz.func86, Tryz.ntmps86
  go_wp2_with fail
  refine HC.out.mono ?_
  rintro e w1 ⟨r, rfl, hr, hb1⟩
  have hb1' : Below w.heap.size w w1 := HB0.out.trans (hb1.mono HB0.out.size)
  have hr' := owns_mono hr HB0.out.size
  have hs1 := hb1'.size
  obtain ⟨hcs, hcm⟩ := sortI_comp (l := zs)
  have HCS := Lib.hid hcs
  have HCM := Lib.hid hcm
  have HB1 := Lib.hid hb1'
  clear hr hb1 hb1' hcs hcm
  rcases hr'.2 with ⟨rfl, h0⟩ | ⟨g, cap, cur, rfl, hg0, _⟩
  · have hz : zs = [] := List.eq_nil_of_length_eq_zero h0
    subst hz
    have HCN : Calls Tryz.prog 154 #[.slice none 0 0] w1 fun e w' => e = .returned (.slice none 0 0) ∧ w' = w1 := by
      clear HC HB0 HB1 hr' HCS HCM HM
      go_enter Tryz.func154, Tryz.ntmps154
      go_wp2_with fail
      go_ret
      exact ⟨rfl, rfl⟩
    have HCN := Lib.hid HCN
    have HS := Lib.hid (sortI_none w1)
    clear hr' h0
    go_wp2_with fail
    refine HS.out.mono ?_
    rintro e w2 ⟨rfl, rfl⟩
    go_wp2_with fail
    refine HCN.out.mono ?_
    rintro e w3 ⟨rfl, rfl⟩
    go_wp2_with fail
    go_ret
    exact ⟨_, [], rfl, ⟨List.Pairwise.nil, fun x => (HM.out x)⟩, World.ownsRow_nil _ _ _ _, HB1.out⟩
  · have HS := Lib.hid (sortI_any g cap zs w.heap.size w1 (by omega) hr')
    clear hr'
    go_wp2_with fail
    refine HS.out.mono ?_
    rintro e w2 ⟨rfl, ho2, hg2⟩
    have hlm : (zs.mergeSort fun x y => decide (x ≤ y)).length = zs.length := List.length_mergeSort _
    have HK := compactI_any g cap w.heap.size (zs.mergeSort fun x y => decide (x ≤ y)) w2 (by omega) (by rw [hlm]; exact ho2)
    rw [hlm] at HK
    have HK := Lib.hid HK
    have HB2 := Lib.hid (HB1.out.grown hg2 hs1 (fun q hq => by cases hq; exact hg0))
    have hs2 := HB2.out.size
    clear ho2 hg2 hlm
    go_wp2_with fail
    refine HK.out.mono ?_
    rintro e w3 ⟨rfl, ho3, hg3⟩
    have HO := Lib.hid ho3
    have HB3 := Lib.hid (HB2.out.grown hg3 hs2 (fun q hq => by cases hq; exact hg0))
    clear ho3 hg3
    generalize compC 0 (zs.mergeSort fun x y => decide (x ≤ y)) zs.length = o at *
    go_wp2_with fail
    go_ret
    exact ⟨_, o, rfl, ⟨HCS.out, fun x => (HCM.out x).trans (HM.out x)⟩, HO.out, HB3.out⟩

end Go.Proofs.YtdgnhfhaaghoaaaGreatDoor
