/- The rounds, by the program's texts: walked. -/
import Derived.Test.YtdgnhfhaaghoaaaGreatDoorProg
import Derived.Test.YtdgnhfhaaghoaaaGreatDoorJ21
import Derived.Test.YtdgnhfhaaghoaaaGreatDoorJ24
import Derived.Test.YtdgnhfhaaghoaaaGreatDoorJ14
import Derived.Deep.RegionHeld3
set_option linter.unusedSimpArgs false
set_option linter.unusedVariables false
namespace Go.Proofs.YtdgnhfhaaghoaaaGreatDoor
open Go.RowKit Go.Sort

theorem el_str : El Tryz.prog 124 9 1 16 := El.mk' Tryz.underlying124 (by kernel_rfl : _ = some (some (.string ⟨#[]⟩), 1, 16)) rfl (by decide)
theorem numbered_0 (A : Option Addr) (c : Nat) (xs : List Int) (w : World) (hn : xs.length ≤ 1000000) (hx : ∀ x ∈ xs, 0 ≤ x ∧ x < 100) (hA : Cells w A (ints xs)) :
    Calls Tryz.prog 123 #[.string ⟨#[]⟩, .slice A xs.length c] w fun e w' => e = .returned (.string (bytesOf (numsT decT xs))) ∧ w = w' := numbered_any [] A c xs w (by simp) hn hx hA
theorem numbered_p (A : Option Addr) (c : Nat) (xs : List Int) (w : World) (hn : xs.length ≤ 1000000) (hx : ∀ x ∈ xs, 0 ≤ x ∧ x < 100) (hA : Cells w A (ints xs)) :
    Calls Tryz.prog 123 #[.string ⟨#[112, 97, 114, 116]⟩, .slice A xs.length c] w fun e w' => e = .returned (.string (bytesOf ([112, 97, 114, 116] ++ numsT decT xs))) ∧ w = w' := numbered_any [112, 97, 114, 116] A c xs w (by simp) hn hx hA
theorem numbered_c (A : Option Addr) (c : Nat) (xs : List Int) (w : World) (hn : xs.length ≤ 1000000) (hx : ∀ x ∈ xs, 0 ≤ x ∧ x < 100) (hA : Cells w A (ints xs)) :
    Calls Tryz.prog 123 #[.string ⟨#[44]⟩, .slice A xs.length c] w fun e w' => e = .returned (.string (bytesOf (44 :: numsT decT xs))) ∧ w = w' := numbered_any [44] A c xs w (by simp) hn hx hA
theorem looks0_len (l : Lab) : (looks0 l).length = l.shows.length := by simp [looks0]
theorem looksN_len (l : Lab) (p : List Int) : (looksN l p).length = l.shows.length := by simp [looksN]
theorem looks0_next {l : Lab} {X : Nat → List Int} (hX : ∀ j, X j = l.shows.getD j default) {k : Nat} (h : k < l.shows.length) : (looks0 l).take (k + 1) = (looks0 l).take k ++ [bytesOf (numsT decT (X k))] := by
  have hl : k < (looks0 l).length := by rw [looks0_len]; exact h
  rw [List.take_succ_eq_append_getElem hl, hX]
  congr 2
  simp [looks0, List.getD, h]
theorem looksN_next {l : Lab} {p : List Int} {k : Nat} (h : k < l.shows.length) : (looksN l p).take (k + 1) = (looksN l p).take k ++ [bytesOf (lookL decT l.steps p k)] := by
  have hl : k < (looksN l p).length := by rw [looksN_len]; exact h
  rw [List.take_succ_eq_append_getElem hl]
  congr 2
  simp [looksN]
/-- The text of a state, up to a step of its own. -/
def lookTo (p : Int) (own : List I3) (j : Nat) : List UInt8 := [112, 97, 114, 116] ++ (numsT decT [p] ++ (own.take j).flatMap fun x => 44 :: numsT decT [x.2.1, x.2.2])
theorem lookTo_zero (p : Int) (own : List I3) : lookTo p own 0 = [112, 97, 114, 116] ++ numsT decT [p] := by simp [lookTo]
theorem lookTo_next {p : Int} {own : List I3} {j : Nat} (h : j < own.length) : lookTo p own (j + 1) = lookTo p own j ++ (44 :: numsT decT [own[j].2.1, own[j].2.2]) := by
  unfold lookTo
  rw [List.take_succ_eq_append_getElem h, List.flatMap_append]
  simp only [List.flatMap_cons, List.flatMap_nil, List.append_nil, List.append_assoc]
theorem lookTo_all (ss : List I3) (parts : List Int) (i : Nat) : lookTo (parts.getD i 0) (sortT (ownL ss parts (i : Int))) (sortT (ownL ss parts (i : Int))).length = lookL decT ss parts i := by
  unfold lookTo lookL lookT
  rw [List.take_length, List.flatMap_map]
theorem lookTo_len {p : Int} {own : List I3} (hp : 0 ≤ p ∧ p < 100) (ho : ∀ x ∈ own, (0 ≤ x.2.1 ∧ x.2.1 < 100) ∧ 0 ≤ x.2.2 ∧ x.2.2 < 100) (j : Nat) : (lookTo p own j).length ≤ 7 + 7 * j := by
  induction j with
  | zero =>
    rw [lookTo_zero, List.length_append]
    have := nums_len (l := [p]) (fun x hx => by simp at hx; rw [hx]; exact hp)
    simp at this ⊢
    omega
  | succ j ih =>
    by_cases h : j < own.length
    · rw [lookTo_next h, List.length_append, List.length_cons]
      have hm := ho _ (List.getElem_mem h)
      have := nums_len (l := [own[j].2.1, own[j].2.2]) (fun x hx => by simp at hx; rcases hx with rfl | rfl; exact hm.1; exact hm.2)
      simp at this
      omega
    · have e : lookTo p own (j + 1) = lookTo p own j := by
        unfold lookTo
        rw [List.take_of_length_le (by omega), List.take_of_length_le (by omega)]
      rw [e]; omega
theorem new_cellsN (W : World) (xs : List Value) (t : TypeId) {n : Nat} (hs : W.heap.size = n) : ∀ j u, xs[j]? = some u → (W.alloc (.cells xs.toArray t)).cell? ((⟨n, 0, none⟩ : Addr).add j) = some u := by
  intro j u hj
  subst hs
  rw [Addr.add_lit, Nat.zero_add, cell_of_row _ _ _ _ _ _ (heap_alloc_new W (.cells xs.toArray t))]
  simpa using hj
theorem tri_oneC (a b c : Int) : ∀ u ∈ [Value.int .i64 a, .int .i64 b, .int .i64 c], u.oneCell' = true := by
  intro u hu
  simp at hu
  rcases hu with rfl | rfl | rfl <;> rfl
theorem ra3_ownsR {w : World} {B : Nat} {v : Value} {l : List I3} (h : w.ownsRow B 103 3 v l.length (l.flatMap tri)) (hn : l.length ≤ maxLen) : RA3 w v l := by
  obtain ⟨A, c, rfl, h⟩ := owns_form h
  exact ⟨A, c, rfl, hn, Cells.of_owns h⟩
theorem putT_len (l : List I3) (x : I3) : (putT l x).length ≤ l.length + 1 := by
  unfold putT
  split
  · omega
  · have h := congrArg List.length (List.takeWhile_append_dropWhile (p := fun y => ltT y x) (l := l))
    rw [List.length_append] at h
    rw [List.length_append, List.length_cons]
    omega
theorem foldT_len : ∀ (l o : List I3), (l.foldl putT o).length ≤ o.length + l.length
  | [], o => by simp
  | x :: l, o => by
    have h1 := foldT_len l (putT o x)
    have h2 := putT_len o x
    rw [List.foldl_cons, List.length_cons]
    omega
theorem sortT_len (l : List I3) : (sortT l).length ≤ l.length := by
  have := foldT_len l []
  simpa [sortT] using this
def ownTo (ss : List I3) (parts : List Int) (i : Int) (k : Nat) : List I3 := ownL (ss.take k) parts i
theorem ownTo_next {ss : List I3} {parts : List Int} {i : Int} {k : Nat} (h : k < ss.length) : ownTo ss parts i (k + 1) = if ss[k].1 == i then ownTo ss parts i k ++ [(0, ss[k].2.1, atP parts ss[k].2.2)] else ownTo ss parts i k := by
  unfold ownTo ownL
  rw [List.take_succ_eq_append_getElem h, List.filter_append, List.map_append]
  by_cases e : ss[k].1 == i <;> simp [e]
theorem ownTo_len (ss : List I3) (parts : List Int) (i : Int) (k : Nat) : (ownTo ss parts i k).length ≤ k := by
  unfold ownTo ownL
  rw [List.length_map]
  exact Nat.le_trans (List.length_filter_le _ _) (by rw [List.length_take]; omega)
theorem ownTo_all (ss : List I3) (parts : List Int) (i : Int) : ownTo ss parts i ss.length = ownL ss parts i := by
  unfold ownTo
  rw [List.take_length]
theorem own_in {l : Lab} {m : Nat} (h1 : 1 ≤ l.shows.length) (hn : l.shows.length ≤ 40) (hact : ∀ s ∈ l.steps, 0 ≤ s.2.1 ∧ s.2.1 < 8) (i : Int) : ∀ x ∈ sortT (ownL l.steps (partsL l m) i), (0 ≤ x.2.1 ∧ x.2.1 < 100) ∧ 0 ≤ x.2.2 ∧ x.2.2 < 100 := by
  intro x hx
  obtain ⟨s, hs, _, rfl⟩ := ownL_mem.1 ((sortT_mem _ _).1 hx)
  have := hact s hs
  obtain ⟨j, hj, hj2⟩ := parts_lt l m h1 s.2.2.toNat
  refine ⟨⟨this.1, by show s.2.1 < 100; omega⟩, ?_⟩
  show 0 ≤ atP _ _ ∧ atP _ _ < 100
  unfold atP
  rw [hj]
  omega

set_option maxRecDepth 100000 in
set_option maxHeartbeats 16000000 in
theorem rounds_any (v : Value) (l : Lab) (w : World) (h1 : 1 ≤ l.shows.length) (hn : l.shows.length ≤ 40) (hsl : l.steps.length ≤ 100000) (hst : StepsN l.shows.length l.steps) (hact : ∀ s ∈ l.steps, 0 ≤ s.2.1 ∧ s.2.1 < 8) (hmk : ∀ xs ∈ l.shows, (∀ x ∈ xs, 0 ≤ x ∧ x < 100) ∧ xs.length ≤ 1000) (hv : RLab w v l) :
    Calls Tryz.prog 55 #[v] w fun e w' => ∃ u m, e = .returned u ∧ IsRounds l m ∧ TRN w' w.heap.size u (rowsTo (partsL l) (m + 1)) ∧ Below w.heap.size w w' := by
  obtain ⟨sv, tv, rfl, hsv, htv⟩ := hv
  have HSV := Lib.hid (show ∀ W, Below w.heap.size w W → RSS W sv l.shows from fun W hb => hsv.below hb)
  have HTV := Lib.hid (show ∀ W, Below w.heap.size w W → RA3 W tv l.steps from fun W hb => htv.below hb)
  obtain ⟨A1, c1', vs, rfl, _, _, _, _⟩ := hsv
  obtain ⟨D, d, rfl, hmD, _⟩ := htv
  obtain ⟨W0, hW0⟩ : ∃ W0, W0 = w.alloc (.cells #[.slice A1 l.shows.length c1', .slice D l.steps.length d] 27) := ⟨_, rfl⟩
  have hz0' : Below w.heap.size w W0 := by rw [hW0]; exact (Below.refl _ _).alloc (Nat.le_refl _) _
  have hs0 : W0.heap.size = w.heap.size + 1 := by rw [hW0]; simp
  have bx0 : W0.heap[w.heap.size]? = some (.cells #[.slice A1 l.shows.length c1', .slice D l.steps.length d] 27) := by rw [hW0]; exact heap_alloc_new _ _
  have HX := Lib.hid (show ∀ W, Below W0.heap.size W0 W → W.cell? ⟨w.heap.size, 0, none⟩ = some (.slice A1 l.shows.length c1') ∧ W.cell? ⟨w.heap.size, 1, none⟩ = some (.slice D l.steps.length d) from fun W hW => by
    have := (hW.block _ (by omega)).trans bx0
    exact ⟨cell_of_row _ _ _ _ _ _ this, cell_of_row _ _ _ _ _ _ this⟩)
  have HTV := Lib.hid (show ∀ W, Below W0.heap.size W0 W → RA3 W (.slice D l.steps.length d) l.steps from fun W hb => HTV.out W (hz0'.trans (hb.mono hz0'.size)))
  obtain ⟨X, hX⟩ : ∃ X : Nat → List Int, X = fun j => l.shows.getD j default := ⟨_, rfl⟩
  have HXE := Lib.hid (fun j => show X j = l.shows.getD j default from by rw [hX])
  obtain ⟨sb, so, eA1, hrow⟩ := rss_rows (X := X) (HSV.out W0 hz0') HXE.out (by omega)
  subst eA1
  have HROW := Lib.hid hrow
  have HMK := Lib.hid (show ∀ j, j < l.shows.length → (∀ x ∈ X j, 0 ≤ x ∧ x < 100) ∧ (X j).length ≤ 1000 from fun j hj => hmk _ (by rw [HXE.out]; simp [List.getD, hj]))
  have HL0 := Lib.hid (fun k (h : k < l.shows.length) => looks0_next HXE.out h)
  have HL0A := Lib.hid (show (looks0 l).take l.shows.length = looks0 l from List.take_of_length_le (by rw [looks0_len]; omega))
  have HLEAST := Lib.hid (show ∀ b c W, Cells W (some b) (strs (looks0 l)) → Calls Tryz.prog 124 #[.slice (some b) l.shows.length c] W (fun e w' => ∃ r, e = .returned r ∧ w'.ownsRow W.heap.size 3 1 r (partsL l 0).length (ints (partsL l 0)) ∧ Below W.heap.size W w') from fun b c W h => by
    have := least_any (some b) c (looks0 l) W (by rw [looks0_len]; omega) h
    rw [looks0_len, looks0_first] at this
    exact this)
  have HLEASTN := Lib.hid (show ∀ m b c W, Cells W (some b) (strs (looksN l (partsL l m))) → Calls Tryz.prog 124 #[.slice (some b) l.shows.length c] W (fun e w' => ∃ r, e = .returned r ∧ w'.ownsRow W.heap.size 3 1 r (partsL l (m + 1)).length (ints (partsL l (m + 1))) ∧ Below W.heap.size W w') from fun m b c W h => by
    have := least_any (some b) c (looksN l (partsL l m)) W (by rw [looksN_len]; omega) h
    rw [looksN_len, looksN_first] at this
    exact this)
  have HRL := Lib.hid (fun k (h : ∀ j, j < k → partsL l (j + 1) ≠ partsL l j) => rounds_le l h1 h)
  have HPL := Lib.hid (fun m => parts_len l m)
  have HPT := Lib.hid (fun m k => parts_lt l m h1 k)
  have HOI := Lib.hid (fun m i => own_in (m := m) h1 hn hact i)
  have HST := Lib.hid hst
  have HZ0 := Lib.hid hz0'
  have HW0 := Lib.hid hW0
  have hsz0 : w.heap.size ≤ W0.heap.size := by omega
  have HOWN := Lib.hid (show (W0.alloc (.cells #[] 9)).ownsRow W0.heap.size 9 1 (.slice (some ⟨w.heap.size + 1, 0, none⟩) 0 0) 0 [] from by rw [← hs0]; exact made_row W0 9)
  have HB0 := Lib.hid ((Below.refl W0.heap.size W0).alloc (Nat.le_refl _) (.cells #[] 9))
  obtain ⟨x0, x1⟩ := HX.out _ HB0.out
  clear hst hact hW0 hz0' hs0 bx0 hX hmk hrow
  unfold maxLen at hmD
  go_enter Tryz.func55, Tryz.ntmps55
  rw [HW0.out] at x0 x1
  go_wp2_with fail
  rw [← HW0.out]
  go_loopw [3, 20] (fun u i wr => ∃ k : Nat, k ≤ l.shows.length ∧ i = .int .i64 k ∧ wr.ownsRow W0.heap.size 9 1 u k (strs ((looks0 l).take k)) ∧ Below W0.heap.size W0 wr)
    (fun _ i _ => l.shows.length - (intOf i).toNat)
  case atStart => exact ⟨0, Nat.zero_le _, rfl, HOWN.out, HB0.out⟩
  case round =>
    clear HOWN HB0 x0 x1
    obtain ⟨k, hk, rfl, hown, hbel⟩ := hrel
    obtain ⟨AO, cO, rfl, hown⟩ := owns_form hown
    have hsz := hbel.size
    obtain ⟨x0, x1⟩ := HX.out wr hbel
    by_cases hlt : k < l.shows.length
    · obtain ⟨Ak, ak, hRk⟩ := HROW.out k hlt
      obtain ⟨ck, hCk⟩ := hRk wr hbel
      obtain ⟨hm1, hm2⟩ := HMK.out k hlt
      have HN := Lib.hid (numbered_0 Ak ak (X k) wr (by omega) hm1 hCk)
      have HNX := Lib.hid (HL0.out k hlt)
      have HO := Lib.hid hown
      have HBE := Lib.hid hbel
      have q0 : (0 : Int) ≤ (k : Int) := by omega
      have q1 : (k : Int) < (l.shows.length : Int) := by omega
      clear hRk hCk hm1 hown hbel
      generalize bytesOf (numsT decT (X k)) = sk at *
      generalize X k = xk at *
      go_wp2_with fail
      (with_reducible refine HN.out.mono ?_)
      rintro e w2 ⟨rfl, rfl⟩
      go_wp2_with (at_builtin; refine wpList_app el_str rfl _ _ rfl W0.heap.size _ _ _ rfl HO.out [.string sk] rfl rfl rfl (one1 rfl) (by omega) (by omega) ?_; intro v3 w3 ho3 hk3 hm3)
      have HO3 := Lib.hid (show w3.ownsRow W0.heap.size 9 1 v3 (k + 1) (strs ((looks0 l).take (k + 1))) from by
        have e : strs ((looks0 l).take (k + 1)) = strs ((looks0 l).take k) ++ [.string sk] := by rw [HNX.out]; simp only [strs, List.map_append, List.map_cons, List.map_nil]
        rw [e]
        simpa [strs] using ho3)
      have HG3 := Lib.hid (below_kept HBE.out hk3 (fun q hq => (HO.out.lt q hq).1) (by omega))
      clear ho3 hk3 hm3
      go_wp2_with fail
      go_roundw
      case rel => exact ⟨k + 1, by omega, by go_num, HO3.out, HG3.out⟩
      case measure => simp [intOf]; omega
    · obtain rfl : k = l.shows.length := by omega
      rw [HL0A.out] at hown
      have hsm := owns_someR hown (by omega)
      obtain ⟨bA, hbA⟩ := hsm
      have hAO : ∃ g, AO = some ⟨g, 0, none⟩ := by
        rcases hown.2 with ⟨e, _⟩ | ⟨g, c, cur, e, _⟩
        · rw [e] at hbA; simp [Value.ownBlock] at hbA
        · cases e; exact ⟨g, rfl⟩
      obtain ⟨gA, rfl⟩ := hAO
      have HLE := Lib.hid (HLEAST.out ⟨gA, 0, none⟩ cO wr (Cells.of_owns hown))
      have HBE := Lib.hid hbel
      clear hown hbel hbA
      go_wp2_with fail
      (with_reducible refine HLE.out.mono ?_)
      rintro e w1 ⟨r1, rfl, hr1, hb1⟩
      have hpl0 := HPL.out 0
      have hnn := owns_someR hr1 (by omega)
      obtain ⟨A2, c2, rfl, hr1⟩ := owns_form hr1
      have hs1 := hb1.size
      have hb1' := HBE.out.trans (hb1.mono hsz)
      have HT1 := Lib.hid (TRN.push (u := .slice none 0 0) (l := []) (vs := []) (x := partsL l 0) (w2 := w1.alloc (.cells #[.slice A2 (partsL l 0).length c2] 30)) (u2 := .slice (some ⟨w1.heap.size, 0, none⟩) 1 1) (World.ownsRow_nil W0 _ _ _) (fun i v xs h => by simp at h) (fun i j v v' b _ h => by simp at h) (fun i v h => by simp at h) (Nat.le_refl _) (owns_mono hr1 hsz) hnn hb1'
        (owns_mono (ownsRow_lit (xs := [.slice A2 (partsL l 0).length c2]) (heap_alloc_new _ _) rfl (by unfold maxLen; omega)) hb1'.size) (Kept.of_below ((Below.refl _ w1).alloc (Nat.le_refl _) _) _))
      have HT1 := Lib.hid (show TRN (w1.alloc (.cells #[.slice A2 (partsL l 0).length c2] 30)) W0.heap.size (.slice (some ⟨w1.heap.size, 0, none⟩) 1 1) (rowsTo (partsL l) 1) from HT1.out)
      have HB1 := Lib.hid (hb1'.alloc hb1'.size (.cells #[.slice A2 (partsL l 0).length c2] 30))
      rw [hpl0] at HT1 HB1 ⊢
      clear hr1 hnn hb1 hb1' x0 x1 hpl0
      go_wp2_with fail
      go_loopw [6] (fun u wr => ∃ m : Nat, m + 1 ≤ l.shows.length ∧ (∃ g c, u = .slice (some ⟨g, 0, none⟩) (m + 1) c) ∧ Differ l m ∧ TRN wr W0.heap.size u (rowsTo (partsL l) (m + 1)) ∧ Below W0.heap.size W0 wr)
        (fun u _ => l.shows.length - lenS u)
      case atStart => exact ⟨0, h1, ⟨_, _, rfl⟩, fun j hj => by omega, HT1.out, HB1.out⟩
      case round =>
        clear HT1 HB1
        obtain ⟨m, hm, ⟨g, cg, rfl⟩, hdf, htab, hbel⟩ := hrel
        have HDF := Lib.hid hdf
        have HT := Lib.hid htab
        obtain ⟨g', cg', b, d', e, _, _, _, hcm, _, hdl, hCm⟩ := htab.at_ (i := m) (by rw [rowsTo_len]; omega)
        rw [rowsTo_len] at e
        cases e
        rw [rowsTo_at] at hcm hdl hCm
        have HCM := Lib.hid (show ∀ W, Below wr.heap.size wr W → Cells W (some ⟨b, 0, none⟩) (ints (partsL l m)) from fun W hW => hCm.below hW)
        have hplm := HPL.out m
        rw [hplm] at hcm
        obtain ⟨x0, x1⟩ := HX.out wr hbel
        have HBE := Lib.hid hbel
        have hsz := hbel.size
        have hb0 : b < wr.heap.size := by
          obtain ⟨b', o', e, hc⟩ := hCm.int (show 0 < (partsL l m).length by omega)
          cases e
          exact lt_of_cell (hc 0 (by omega))
        obtain ⟨Wz, hWz⟩ : ∃ Wz, Wz = wr := ⟨_, rfl⟩
        have HWZ := Lib.hid hWz
        rw [← hWz] at HT HCM HBE hsz hb0
        clear hdf htab hbel hCm hdl hplm hWz
        go_wp2_with fail
        go_loopw [3, 42] (fun u i wr => ∃ k : Nat, k ≤ l.shows.length ∧ i = .int .i64 k ∧ wr.ownsRow Wz.heap.size 9 1 u k (strs ((looksN l (partsL l m)).take k)) ∧ Below Wz.heap.size Wz wr)
          (fun _ i _ => l.shows.length - (intOf i).toNat)
        case atStart => exact ⟨0, Nat.zero_le _, rfl, World.ownsRow_nil _ _ _ _, by rw [HWZ.out]; exact Below.refl _ _⟩
        case round =>
          clear hcm x0 x1 HWZ
          obtain ⟨k, hk, rfl, hown, hbel⟩ := hrel
          obtain ⟨AO, cO, rfl, hown⟩ := owns_form hown
          have hsr := hbel.size
          have hbW := HBE.out.trans (hbel.mono hsz)
          obtain ⟨x0, x1⟩ := HX.out wr hbW
          by_cases hlt : k < l.shows.length
          · obtain ⟨Wy, hWy⟩ : ∃ Wy, Wy = wr := ⟨_, rfl⟩
            have HWY := Lib.hid hWy
            have HO := Lib.hid hown
            have HB := Lib.hid hbel
            have HBW := Lib.hid hbW
            have HNX := Lib.hid (looksN_next (p := partsL l m) hlt)
            have HON := Lib.hid (show (wr.alloc (.cells #[] 103)).ownsRow Wy.heap.size 103 3 (.slice (some ⟨wr.heap.size, 0, none⟩) 0 0) (ownTo l.steps (partsL l m) (k : Int) 0).length ((ownTo l.steps (partsL l m) (k : Int) 0).flatMap tri) from by rw [hWy]; exact World.ownsRow_made wr #[] 0 (Nat.le_refl _) (Nat.zero_le _) rfl)
            have HB2 := Lib.hid (show Below Wy.heap.size Wy (wr.alloc (.cells #[] 103)) from by rw [hWy]; exact (Below.refl _ _).alloc (Nat.le_refl _) _)
            obtain ⟨x0, x1⟩ := HX.out (wr.alloc (.cells #[] 103)) (hbW.alloc hbW.size _)
            have q0 : (0 : Int) ≤ (k : Int) := by omega
            have q1 : (k : Int) < (l.shows.length : Int) := by omega
            rw [← hWy] at HO HB HBW hsr
            clear hown hbel hbW hWy
            go_wp2_with fail
            go_loopw [9, 49] (fun u i wr => ∃ j : Nat, j ≤ l.steps.length ∧ i = .int .i64 j ∧ wr.ownsRow Wy.heap.size 103 3 u (ownTo l.steps (partsL l m) (k : Int) j).length ((ownTo l.steps (partsL l m) (k : Int) j).flatMap tri) ∧ Below Wy.heap.size Wy wr)
              (fun _ i _ => l.steps.length - (intOf i).toNat)
            case atStart => exact ⟨0, Nat.zero_le _, rfl, HON.out, HB2.out⟩
            case round =>
              clear HON HB2 x0 x1 HWY
              obtain ⟨j, hj, rfl, hown, hbel⟩ := hrel
              obtain ⟨AT, cT, rfl, hown⟩ := owns_form hown
              have hsy := hbel.size
              have hbW := HBW.out.trans (hbel.mono HBW.out.size)
              have hbz := HB.out.trans (hbel.mono hsr)
              obtain ⟨x0, x1⟩ := HX.out wr hbW
              by_cases hjt : j < l.steps.length
              · obtain ⟨b5, oo, c', e, e0, e1, e2⟩ := (HTV.out wr hbW).at_ (List.getElem?_eq_getElem hjt)
                cases e
                obtain ⟨su', zn, hu, hz2, hun, hzn⟩ := HST.out _ (List.getElem_mem hjt)
                have hon := ownTo_next (parts := partsL l m) (i := (k : Int)) hjt
                have hol := ownTo_len l.steps (partsL l m) (k : Int) j
                have HBXN := Lib.hid (heap_alloc_new wr (.cells #[.int .i64 l.steps[j].1, .int .i64 l.steps[j].2.1, .int .i64 l.steps[j].2.2] 103))
                have HBA := Lib.hid ((Below.refl wr.heap.size wr).alloc (Nat.le_refl _) (.cells #[.int .i64 l.steps[j].1, .int .i64 l.steps[j].2.1, .int .i64 l.steps[j].2.2] 103))
                have g0 := cell_of_row _ _ 0 _ _ _ HBXN.out
                have g1 := cell_of_row _ _ 1 _ _ _ HBXN.out
                have g2 := cell_of_row _ _ 2 _ _ _ HBXN.out
                obtain ⟨bq, oq, eq, hcz⟩ := (HCM.out _ hbz).int (show zn < (partsL l m).length by rw [HPL.out]; exact hzn)
                cases eq
                have cz := hcz zn (by rw [HPL.out]; exact hzn)
                rw [Nat.zero_add] at cz
                have cz1 := cell_below HBA.out cz (lt_of_cell cz)
                have hat : atP (partsL l m) l.steps[j].2.2 = (partsL l m).getD zn 0 := by rw [hz2]; unfold atP; rw [Int.toNat_natCast]
                rw [hat] at hon
                have HON := Lib.hid hon
                have HO4 := Lib.hid hown
                have HOA := Lib.hid (hown.alloc (.cells #[.int .i64 l.steps[j].1, .int .i64 l.steps[j].2.1, .int .i64 l.steps[j].2.2] 103))
                have HBY := Lib.hid hbel
                have HBYA := Lib.hid (hbel.trans (HBA.out.mono hsy))
                have HZ2 := Lib.hid hz2
                have r0 : (0 : Int) ≤ (j : Int) := by omega
                have r1 : (j : Int) < (l.steps.length : Int) := by omega
                have r2 : (0 : Int) ≤ (zn : Int) := by omega
                have r3 : (zn : Int) < (l.shows.length : Int) := by omega
                rw [hz2] at e2 g2
                clear hu hun hon hcz hat hown hbel hbW hbz cz
                cases h00 : (l.steps[j].1 == (k : Int))
                · rw [h00] at HON
                  rw [hz2] at g0 g1 HOA HBYA
                  clear hz2 HZ2
                  generalize l.steps[j] = sj at *
                  go_wp2_with fail
                  go_roundw
                  case rel => exact ⟨j + 1, by omega, by go_num, by rw [HON.out, if_neg Bool.false_ne_true]; exact HOA.out, HBYA.out⟩
                  case measure => simp [intOf]; omega
                · rw [h00] at HON
                  rw [hz2] at g0 g1 cz1 HOA HBYA HBA HBXN
                  clear hz2 HZ2
                  generalize l.steps[j] = sj at *
                  generalize hpz : (partsL l m).getD zn 0 = pz at *
                  clear hpz
                  obtain ⟨i3, hi3, hz30, hz31, hz32⟩ := info_parts info_ca3
                  have HKEEP := Lib.hid (show ∀ W w7 : World, W.grownBy w7 (Value.slice AT (ownTo l.steps (partsL l m) (k : Int) j).length cT).ownBlock → (W.cell? ⟨wr.heap.size, 1, none⟩ = some (.int .i64 sj.2.1) ∧ W.cell? ⟨wr.heap.size, 2, none⟩ = some (.int .i64 zn) ∧ W.cell? ⟨b, zn, none⟩ = some (.int .i64 pz)) → (w7.cell? ⟨wr.heap.size, 1, none⟩ = some (.int .i64 sj.2.1) ∧ w7.cell? ⟨wr.heap.size, 2, none⟩ = some (.int .i64 zn) ∧ w7.cell? ⟨b, zn, none⟩ = some (.int .i64 pz)) from by
                    rintro W w7 hg ⟨a1, a2, a3⟩
                    exact ⟨(World.cell?_of_block (a := ⟨wr.heap.size, 1, none⟩) (hg.block _ (lt_of_cell a1) (fun e => by have := (HO4.out.lt _ e.symm).2; dsimp only at this; omega))).trans a1, (World.cell?_of_block (a := ⟨wr.heap.size, 2, none⟩) (hg.block _ (lt_of_cell a2) (fun e => by have := (HO4.out.lt _ e.symm).2; dsimp only at this; omega))).trans a2, (World.cell?_of_block (a := ⟨b, zn, none⟩) (hg.block _ (lt_of_cell a3) (fun e => by have := (HO4.out.lt _ e.symm).1; dsimp only at this; omega))).trans a3⟩)
                  go_wp2_with fail
                  go_region_held3 (fun w' => w'.cell? ⟨wr.heap.size, 1, none⟩ = some (.int .i64 sj.2.1) ∧ w'.cell? ⟨wr.heap.size, 2, none⟩ = some (.int .i64 zn) ∧ w'.cell? ⟨b, zn, none⟩ = some (.int .i64 pz)) (first | exact HKEEP.out _ _ hgrow7 (by assumption) | go_keep)
                    (first
                      | (refine step_append_own rfl (.tmp 57) (.tmp 66) 25 rfl Wy.heap.size 103 i3 _ 3 24 Tryz.underlying25 hi3 hz30 hz31 hz32 rfl (by decide) _ _ _ rfl (HOA.out.alloc (.cells #[.int .i64 0, .int .i64 sj.2.1, .int .i64 pz] 103)) ⟨wr.heap.size + 1, 0, none⟩ 1 1 [.int .i64 0, .int .i64 sj.2.1, .int .i64 pz] rfl rfl ?g2 ?g3 ?g4 ?g5 ?g6 ?_; (case g2 => exact new_cellsN _ [.int .i64 0, .int .i64 sj.2.1, .int .i64 pz] _ (by simp)); (case g3 => exact tri_oneC _ _ _); (case g4 => unfold maxLen; omega); (case g5 => omega); (case g6 => simp; omega); intro v7 w7 hown7 hgrow7 _)
                      | fail)
                  have HO7 := Lib.hid (show w7.ownsRow Wy.heap.size 103 3 v7 (ownTo l.steps (partsL l m) (k : Int) (j + 1)).length ((ownTo l.steps (partsL l m) (k : Int) (j + 1)).flatMap tri) from by
                    rw [HON.out, if_pos True.intro, List.length_append, List.flatMap_append]
                    exact hown7)
                  have HB7 := Lib.hid ((((HBYA.out.alloc HBYA.out.size (.cells #[.int .i64 0, .int .i64 sj.2.1, .int .i64 pz] 103)).drew).grown hgrow7 (by simp; omega) (fun q hq => (HO4.out.lt q hq).1)))
                  clear hown7 hgrow7
                  go_wp2_with fail
                  go_roundw
                  case rel => exact ⟨j + 1, by omega, by go_num, HO7.out, HB7.out⟩
                  case measure => simp [intOf]; omega
              · obtain rfl : j = l.steps.length := by omega
                rw [ownTo_all] at hown ⊢
                have hol := ownTo_len l.steps (partsL l m) (k : Int) l.steps.length
                rw [ownTo_all] at hol
                obtain ⟨bq, oq, eq, hcz⟩ := (HCM.out _ hbz).int (show k < (partsL l m).length by rw [HPL.out]; exact hlt)
                cases eq
                have cz := hcz k (by rw [HPL.out]; exact hlt)
                rw [Nat.zero_add] at cz
                obtain ⟨pn, hpn, hpn2⟩ := HPT.out m k
                have HALLK := Lib.hid (lookTo_all l.steps (partsL l m) k)
                have HOIN := Lib.hid (HOI.out m (k : Int))
                rw [hpn] at cz HALLK
                clear hpn hcz
                generalize ownL l.steps (partsL l m) (k : Int) = ow at *
                obtain ⟨W5, hW5⟩ : ∃ W5, W5 = wr.alloc (.cells #[.int .i64 (pn : Int)] 3) := ⟨_, rfl⟩
                have hb5 : Below wr.heap.size wr W5 := by rw [hW5]; exact (Below.refl _ _).alloc (Nat.le_refl _) _
                have hc5 : Cells W5 (some ⟨wr.heap.size, 0, none⟩) (ints [(pn : Int)]) := by rw [hW5]; exact cells_of_heap (cs := [.int .i64 (pn : Int)]) (heap_alloc_new _ _)
                have HN : Calls Tryz.prog 123 #[.string ⟨#[112, 97, 114, 116]⟩, .slice (some ⟨wr.heap.size, 0, none⟩) 1 1] W5 (fun e w' => e = .returned (.string (bytesOf (lookTo (pn : Int) (sortT ow) 0))) ∧ W5 = w') := by
                  rw [lookTo_zero]
                  exact numbered_p (some ⟨wr.heap.size, 0, none⟩) 1 [(pn : Int)] W5 (by simp) (fun x hx => by simp at hx; omega) hc5
                have HN := Lib.hid HN
                have HSO := Lib.hid (sortedSteps_any (.slice AT ow.length cT) ow W5 (by omega) (ra3_ownsR (owns_below hown hb5 (Nat.le_refl _)) (by unfold maxLen; omega)))
                have hsol : (sortT ow).length ≤ ow.length := sortT_len ow
                have HLL := Lib.hid (fun j => lookTo_len (p := (pn : Int)) (own := sortT ow) (by omega) HOIN.out j)
                have HLN := Lib.hid (fun j (h : j < (sortT ow).length) => lookTo_next (p := (pn : Int)) h)
                have HB5 := Lib.hid (hbel.trans (hb5.mono hsy))
                have HW5 := Lib.hid hW5
                have hs5 := hb5.size
                clear hown hbel hbW hbz hb5 hc5 hW5
                generalize sortT ow = so at *
                go_wp2_with fail
                rw [← HW5.out]
                (with_reducible refine HN.out.mono ?_)
                rintro e w5 ⟨rfl, rfl⟩
                clear cz
                go_wp2_with fail
                (with_reducible refine HSO.out.mono ?_)
                rintro e w6 ⟨r6, rfl, hr6, hb6⟩
                obtain ⟨AS, cS, rfl, hr6⟩ := owns_form hr6
                have hs6 := hb6.size
                have HB6 := Lib.hid (HB5.out.trans (hb6.mono HB5.out.size))
                have HSO6 := Lib.hid (show ∀ W, Below w6.heap.size w6 W → RA3 W (.slice AS so.length cS) so from fun W hW => ra3_ownsR (owns_below hr6 hW (Nat.le_refl _)) (by unfold maxLen; omega))
                clear hr6 hb6 x0 x1
                go_wp2_with fail
                go_loopw [12, 78] (fun q i wr => ∃ j : Nat, j ≤ so.length ∧ i = .int .i64 j ∧ q = .string (bytesOf (lookTo (pn : Int) so j)) ∧ Below w6.heap.size w6 wr)
                  (fun _ i _ => so.length - (intOf i).toNat)
                case atStart => exact ⟨0, Nat.zero_le _, rfl, rfl, Below.refl _ _⟩
                case round =>
                  obtain ⟨j, hj, rfl, rfl, hbel⟩ := hrel
                  have hs66 := hbel.size
                  by_cases hjs : j < so.length
                  · obtain ⟨b7, o7, c7, e, e0, e1, e2⟩ := (HSO6.out wr hbel).at_ (List.getElem?_eq_getElem hjs)
                    cases e
                    obtain ⟨⟨ha0, ha1⟩, hb0', hb1'⟩ := HOIN.out _ (List.getElem_mem hjs)
                    obtain ⟨W8, hW8⟩ : ∃ W8, W8 = wr.alloc (.cells #[.int .i64 so[j].1, .int .i64 so[j].2.1, .int .i64 so[j].2.2] 103) := ⟨_, rfl⟩
                    have hb8 : Below wr.heap.size wr W8 := by rw [hW8]; exact (Below.refl _ _).alloc (Nat.le_refl _) _
                    have hbx8 : W8.heap[wr.heap.size]? = some (.cells #[.int .i64 so[j].1, .int .i64 so[j].2.1, .int .i64 so[j].2.2] 103) := by rw [hW8]; exact heap_alloc_new _ _
                    have hc8 : Cells W8 (some ⟨wr.heap.size, 1, none⟩) (ints [so[j].2.1, so[j].2.2]) := fun i u hi => by
                      refine ⟨wr.heap.size, 1, rfl, ?_⟩
                      match i, hi with
                      | 0, hi => simp at hi; subst hi; exact cell_of_row _ _ _ _ _ _ hbx8
                      | 1, hi => simp at hi; subst hi; exact cell_of_row _ _ _ _ _ _ hbx8
                      | i + 2, hi => simp at hi
                    have HN8 : Calls Tryz.prog 123 #[.string ⟨#[44]⟩, .slice (some ⟨wr.heap.size, 1, none⟩) 2 2] W8 (fun e w' => e = .returned (.string (bytesOf (44 :: numsT decT [so[j].2.1, so[j].2.2]))) ∧ W8 = w') := numbered_c (some ⟨wr.heap.size, 1, none⟩) 2 [so[j].2.1, so[j].2.2] W8 (by simp) (fun x hx => by simp at hx; rcases hx with rfl | rfl; exact ⟨ha0, ha1⟩; exact ⟨hb0', hb1'⟩) hc8
                    have HN8 := Lib.hid HN8
                    have hl8 := nums_len (l := [so[j].2.1, so[j].2.2]) (fun x hx => by simp at hx; rcases hx with rfl | rfl; exact ⟨ha0, ha1⟩; exact ⟨hb0', hb1'⟩)
                    have hs8 : (bytesOf (44 :: numsT decT [so[j].2.1, so[j].2.2])).size ≤ 100 := by rw [bytes_size, List.length_cons]; simp at hl8; omega
                    have hs9 : (bytesOf (lookTo (pn : Int) so j)).size ≤ 1000000 := by rw [bytes_size]; have := HLL.out j; omega
                    have HAPP := Lib.hid (show bytesOf (lookTo (pn : Int) so j) ++ bytesOf (44 :: numsT decT [so[j].2.1, so[j].2.2]) = bytesOf (lookTo (pn : Int) so (j + 1)) from by rw [bytes_app, HLN.out j hjs])
                    have HB8 := Lib.hid (hbel.trans (hb8.mono hs66))
                    have HW8 := Lib.hid hW8
                    have r0 : (0 : Int) ≤ (j : Int) := by omega
                    have r1 : (j : Int) < (so.length : Int) := by omega
                    clear hbel ha0 ha1 hb0' hb1' hb8 hbx8 hc8 hl8 hW8
                    generalize bytesOf (44 :: numsT decT [so[j].2.1, so[j].2.2]) = nt at *
                    generalize bytesOf (lookTo (pn : Int) so j) = lt at *
                    generalize so[j] = sj at *
                    go_wp2_with fail
                    rw [← HW8.out]
                    (with_reducible refine HN8.out.mono ?_)
                    rintro e w8 ⟨rfl, rfl⟩
                    go_wp2_with fail
                    go_roundw
                    case rel => exact ⟨j + 1, by omega, by go_num, by rw [HAPP.out], HB8.out⟩
                    case measure => simp [intOf]; omega
                  · obtain rfl : j = so.length := by omega
                    rw [HALLK.out]
                    have HB9 := Lib.hid (HB6.out.trans (hbel.mono HB6.out.size))
                    have hs9 := HB9.out.size
                    have HO9 := Lib.hid (owns_below HO.out HB9.out (Nat.le_refl _))
                    have HBZ9 := Lib.hid (HB.out.trans (HB9.out.mono hsr))
                    clear hbel
                    generalize hlk : bytesOf (lookL decT l.steps (partsL l m) k) = lk at *
                    have HLK := Lib.hid hlk
                    clear hlk
                    go_wp2_with (at_builtin; refine wpList_app el_str rfl _ _ rfl Wz.heap.size _ _ _ rfl HO9.out [.string lk] rfl rfl rfl (one1 rfl) (by omega) (by omega) ?_; intro v3 w3 ho3 hk3 hm3)
                    have HO3 := Lib.hid (show w3.ownsRow Wz.heap.size 9 1 v3 (k + 1) (strs ((looksN l (partsL l m)).take (k + 1))) from by
                      have e : strs ((looksN l (partsL l m)).take (k + 1)) = strs ((looksN l (partsL l m)).take k) ++ [.string lk] := by rw [HNX.out]; simp only [strs, List.map_append, List.map_cons, List.map_nil]
                      rw [e]
                      simpa [strs] using ho3)
                    have HG3 := Lib.hid (below_kept HBZ9.out hk3 (fun q hq => (HO.out.lt q hq).1) (by omega))
                    clear ho3 hk3 hm3
                    go_wp2_with fail
                    go_roundw
                    case rel => exact ⟨k + 1, by omega, by go_num, HO3.out, HG3.out⟩
                    case measure => simp [intOf]; omega
          · obtain rfl : k = l.shows.length := by omega
            have hall : (looksN l (partsL l m)).take l.shows.length = looksN l (partsL l m) := List.take_of_length_le (by rw [looksN_len]; omega)
            rw [hall] at hown
            obtain ⟨bA, hbA⟩ := owns_someR hown (by omega)
            have hAO : ∃ g, AO = some ⟨g, 0, none⟩ := by
              rcases hown.2 with ⟨e, _⟩ | ⟨g, c, cur, e, _⟩
              · rw [e] at hbA; simp [Value.ownBlock] at hbA
              · cases e; exact ⟨g, rfl⟩
            obtain ⟨gB, rfl⟩ := hAO
            have HLE := Lib.hid (HLEASTN.out m ⟨gB, 0, none⟩ cO wr (Cells.of_owns hown))
            have HB := Lib.hid hbel
            clear hown hbel hbW hbA hall x0 x1
            go_wp2_with fail
            (with_reducible refine HLE.out.mono ?_)
            rintro e w6 ⟨r, rfl, hr, hb6⟩
            have hpl := HPL.out (m + 1)
            have hpm := HPL.out m
            have hnn := owns_someR hr (by omega)
            obtain ⟨AR, cR, e6, _⟩ := owns_form hr
            have hb66 := HB.out.trans (hb6.mono hsr)
            have hfull : ∃ br, r = .slice (some ⟨br, 0, none⟩) (partsL l (m + 1)).length cR := by
              obtain ⟨br, hbr⟩ := hnn
              rcases hr.2 with ⟨e, _⟩ | ⟨g2, c2, cur2, e, _⟩
              · rw [e] at hbr; simp [Value.ownBlock] at hbr
              · rw [e] at e6; cases e6; exact ⟨g2, e⟩
            obtain ⟨br, rfl⟩ := hfull
            clear e6
            have HC6 := equalI_any (some ⟨br, 0, none⟩) (some ⟨b, 0, none⟩) cR d' (partsL l (m + 1)) (partsL l m) w6 (by rw [hpl]; omega) (by rw [hpm]; omega) (Cells.of_owns hr) (HCM.out w6 hb66)
            rw [hpl, hpm] at HC6
            have HC6 := Lib.hid HC6
            have HR6 := Lib.hid hr
            have HN6 := Lib.hid hnn
            have HB6 := Lib.hid hb66
            have hs6 := hb66.size
            have HPLE := Lib.hid hpl
            clear hr hnn hb66 hb6 hpm
            rw [hpl]
            clear hpl
            by_cases he : partsL l (m + 1) = partsL l m
            · have hsame : sameI (partsL l (m + 1)) (partsL l m) = true := by unfold sameI; simpa using he
              have HE := Lib.hid he
              rw [hsame] at HC6
              clear he hsame
              go_wp2_with fail
              (with_reducible refine HC6.out.mono ?_)
              rintro e w7 ⟨rfl, hb7⟩
              have HB7 := Lib.hid (HB6.out.trans (hb7.mono hs6))
              clear hb7
              go_wp2_with fail
              go_ret
              exact ⟨_, m, rfl, ⟨hm, HE.out, HDF.out⟩, (HT.out.below HB7.out (Nat.le_refl _)).wider hsz0, HZ0.out.trans ((HBE.out.trans (HB7.out.mono hsz)).mono hsz0)⟩
            · have hsame : sameI (partsL l (m + 1)) (partsL l m) = false := by unfold sameI; simpa using he
              have hdf : Differ l (m + 1) := fun j hj => by
                rcases Nat.lt_succ_iff_lt_or_eq.1 hj with h | h
                · exact HDF.out j h
                · rw [h]; exact he
              have hm2 := HRL.out (m + 1) hdf
              have HD2 := Lib.hid hdf
              have HNX := Lib.hid (rowsTo_next (partsL l) (m + 1))
              have HT2 := HT.out
              obtain ⟨vs, t1, t2, t3, t4⟩ := HT2
              rw [rowsTo_len] at t1
              have T1 := Lib.hid t1
              have T2 := Lib.hid t2
              have T3 := Lib.hid t3
              have T4 := Lib.hid t4
              rw [hsame] at HC6
              clear he hsame hdf t1 t2 t3 t4
              go_wp2_with fail
              (with_reducible refine HC6.out.mono ?_)
              rintro e w7 ⟨rfl, hb7⟩
              have HB7 := Lib.hid (HB6.out.trans (hb7.mono hs6))
              have hs7 := HB7.out.size
              have HR7 := Lib.hid (owns_mono (owns_below HR6.out hb7 (Nat.le_refl _)) hsr)
              have HT17 := Lib.hid (owns_below T1.out HB7.out (Nat.le_refl _))
              clear hb7
              go_wp2_with (at_builtin; refine wpList_app el_ints rfl _ _ rfl W0.heap.size _ _ _ rfl HT17.out [.slice (some ⟨br, 0, none⟩) l.shows.length cR] rfl rfl rfl (one1 rfl) (by omega) (by omega) ?_; intro v8 w8 ho8 hk8 hm8)
              have hform : ∃ g c, v8 = .slice (some ⟨g, 0, none⟩) (m + 1 + 1) c := by
                rcases ho8.2 with ⟨_, e⟩ | ⟨g2, c2, cur2, e, _⟩
                · omega
                · exact ⟨g2, c2, e⟩
              have HP := Lib.hid (TRN.push (x := partsL l (m + 1)) (w := Wz) (l := rowsTo (partsL l) (m + 1)) (by rw [rowsTo_len]; exact T1.out) T2.out T3.out T4.out hsz HR7.out HN6.out HB7.out (by rw [rowsTo_len, HPLE.out]; exact ho8) hk8)
              have HG' := Lib.hid (below_kept (HBE.out.trans (HB7.out.mono hsz)) hk8 (fun q hq => (T1.out.lt q hq).1) (by omega))
              clear ho8 hk8 hm8
              obtain ⟨g8, c8, rfl⟩ := hform
              go_wp2_with fail
              go_roundw
              case rel => exact ⟨m + 1, by omega, ⟨_, _, rfl⟩, HD2.out, by rw [HNX.out]; exact HP.out, HG'.out⟩
              case measure => simp [lenS]; omega

end Go.Proofs.YtdgnhfhaaghoaaaGreatDoor
