/- The different ones of names in ascending order: the program's sortedNames (slices.Sort and slices.Compact at strings). -/
import Derived.Test.YtijkdpdmclkmlaaGreatDoorProg
import Derived.Test.YtijkdpdmclkmlaaGreatDoorJ21
import Derived.Test.YtijkdpdmclkmlaaGreatDoorJ23
import Derived.Test.YtijkdpdmclkmlaaGreatDoorJ9
import Derived.Sort.OwnSorted
import Derived.BigQuiet
set_option linter.unusedSimpArgs false
set_option linter.unusedVariables false
set_option maxRecDepth 100000
set_option maxHeartbeats 16000000
namespace Go.Proofs.YtijkdpdmclkmlaaGreatDoor
open Go.RowKit
open Go.Sort (grow)

/-! Plain: sorted, and each once. -/
theorem bytes_lt : ∀ (x y : List UInt8), Op.bytesLess x y = decide (x < y)
  | [], [] => by simp [Op.bytesLess]
  | [], b :: y => by simp [Op.bytesLess]
  | a :: x, [] => by simp [Op.bytesLess]
  | a :: x, b :: y => by
    rw [Bool.eq_iff_iff]
    simp only [Op.bytesLess, Bool.or_eq_true, Bool.and_eq_true, decide_eq_true_eq, beq_iff_eq, List.cons_lt_cons_iff, bytes_lt x y]
theorem bytes_le (x y : List UInt8) : decide (x ≤ y) = !Op.bytesLess y x := by
  rw [bytes_lt]
  by_cases h : y < x
  · rw [decide_eq_true h]
    simp only [Bool.not_true, decide_eq_false_iff_not]
    exact fun h2 => h2 h
  rw [decide_eq_false h]
  simp only [Bool.not_false, decide_eq_true_eq]
  exact h
theorem bytes_le_trans (x y z : List UInt8) (h1 : (!Op.bytesLess y x) = true) (h2 : (!Op.bytesLess z y) = true) : (!Op.bytesLess z x) = true := by
  simp only [Bool.not_eq_true'] at *
  cases h : Op.bytesLess z x
  · rfl
  cases h3 : Op.bytesLess x y
  · rw [bytes_total x y h3 h1] at h; rw [h2] at h; cases h
  rw [bytes_trans _ _ _ h h3] at h2; cases h2
def lsB (l : List ByteArray) : List (List UInt8) := l.map fun s => s.data.toList
def sortB (l : List ByteArray) : List ByteArray := ((lsB l).mergeSort fun x y => decide (x ≤ y)).map fun x => ⟨x.toArray⟩
theorem sortB_len (l : List ByteArray) : (sortB l).length = l.length := by unfold sortB lsB; simp
theorem sortB_mem {x : ByteArray} {l : List ByteArray} : x ∈ sortB l ↔ x ∈ l := by
  unfold sortB lsB
  simp only [List.mem_map, List.mem_mergeSort]
  constructor
  · rintro ⟨t, ⟨s, hs, rfl⟩, rfl⟩
    rw [show (⟨s.data.toList.toArray⟩ : ByteArray) = s from by simp]
    exact hs
  intro h
  exact ⟨_, ⟨x, h, rfl⟩, by simp⟩
theorem sortB_pair (l : List ByteArray) : (sortB l).Pairwise fun x y => lessS y x = false := by
  unfold sortB
  rw [List.pairwise_map]
  have h := List.pairwise_mergeSort (le := fun x y : List UInt8 => decide (x ≤ y)) (fun a b c h1 h2 => by rw [bytes_le] at *; exact bytes_le_trans _ _ _ h1 h2)
    (fun a b => by
      rw [bytes_le, bytes_le]
      cases h1 : Op.bytesLess b a
      · rfl
      rw [bytes_asym _ _ h1]; rfl) (lsB l)
  refine h.imp ?_
  intro a b hab
  rw [bytes_le] at hab
  unfold lessS
  rw [ByteArray.toList_eq, ByteArray.toList_eq]
  simpa using hab
theorem sort_comp (l : List ByteArray) : compC default (sortB l) l.length = sortS l := by
  rw [← sortB_len l]
  refine asc_ext (compC_strict (R := fun x y => lessS y x = false) (S := fun x y => lessS x y = true) (fun a b h hne => ?_) (fun a b c h1 h2 => ?_) (sortB_pair l) (fun a => less_irr a)) (sortS_asc l) fun x => by rw [compC_mem, sortB_mem, sortS_mem]
  · cases h2 : lessS a b
    · exact absurd (less_total h2 h) hne
    rfl
  cases h3 : lessS a b
  · rw [less_total h3 h1]; exact h2
  exact less_trans h3 h2
theorem enc_strs (l : List ByteArray) : (lsB l).map encStr = strs l := by
  unfold lsB strs
  rw [List.map_map]
  apply List.map_congr_left
  intro s _
  simp [encStr]
theorem enc_sortB (l : List ByteArray) : ((lsB l).mergeSort fun x y => decide (x ≤ y)).map encStr = strs (sortB l) := by
  unfold sortB strs
  rw [List.map_map]
  rfl

/-! The walks. -/
theorem sortSG_any (g c : Nat) (zs : List ByteArray) (B : Nat) (w : World) (hn : zs.length ≤ 16777216) (h : w.ownsRow B 9 1 (.slice (some ⟨g, 0, none⟩) zs.length c) zs.length (strs zs)) :
    Calls Tryz.prog 199 #[.slice (some ⟨g, 0, none⟩) zs.length c] w fun e w' => e = .returned (.tuple #[]) ∧
      w'.ownsRow B 9 1 (.slice (some ⟨g, 0, none⟩) zs.length c) zs.length (strs (sortB zs)) ∧ w.grownBy w' (some g) := by
  rcases h.2 with ⟨e, _⟩ | ⟨g', cap, cur, e, hb, hg, h1, h2, h3, h4⟩
  · cases e
  cases e
  have hl : (lsB zs).length = zs.length := by unfold lsB; rw [List.length_map]
  have h4' : cur.toList.take (lsB zs).length = (lsB zs).map encStr := by rw [enc_strs, hl]; simpa using h4
  have hc := Any.slices_Sort_string Tryz.lays190 g 0 c (lsB zs) w (holds_of_block hg h4') (Array.getElem?_eq_some_iff.1 hg).1 (by omega)
  rw [hl] at hc
  refine hc.mono ?_
  rintro e w' ⟨rfl, n, os, rfl⟩
  refine ⟨rfl, ?_, grownBy_sorted _⟩
  have ho := ownsRow_sorted (n := n) (os := os) (ss := lsB zs) (ts := (lsB zs).mergeSort fun x y => decide (x ≤ y)) (cap := c) (by simp [List.length_mergeSort]) hb hg (by rw [hl]; exact h1) h2 h3
  rw [enc_sortB, hl] at ho
  exact ho

theorem insSG_none (w : World) : Calls Tryz.prog 270 #[.slice none 0 0, .int .i64 0, .int .i64 0] w fun e w' => e = .returned (.tuple #[]) ∧ w = w' := by
  go_enter Tryz.func270, Tryz.ntmps270
  go_wp2_with fail
  go_loop [6] (fun i => i = .int .i64 1) (fun _ => 0)
  case atStart => exact rfl
  obtain rfl := hrel
  go_wp2_with fail
  go_end0
  exact ⟨rfl, rfl⟩

theorem pdqSG_none (n : Int) (w : World) : Calls Tryz.prog 246 #[.slice none 0 0, .int .i64 0, .int .i64 0, .int .i64 n] w fun e w' => e = .returned (.tuple #[]) ∧ w = w' := by
  have H := Lib.hid (fun w => insSG_none w)
  go_enter Tryz.func246, Tryz.ntmps246
  go_wp2_with fail
  go_loop [1, 2] (fun a b => a = .int .i64 0 ∧ b = .int .i64 0) (fun _ _ => 0)
  case atStart => exact ⟨rfl, rfl⟩
  obtain ⟨rfl, rfl⟩ := hrel
  go_wp2_with ((with_reducible refine (H.out _).mono ?_); rintro e w1 ⟨rfl, rfl⟩)
  exact bodyPost_ret (v := .tuple #[]) (by simp [results, Tryz.results246, go_sem]) rfl ⟨rfl, rfl⟩

theorem sortSG_none (w : World) : Calls Tryz.prog 199 #[.slice none 0 0] w fun e w' => e = .returned (.tuple #[]) ∧ w = w' := by
  have H := Lib.hid (fun n w => pdqSG_none n w)
  have H2 := Lib.hid (fun w => bitsLenG_zero w)
  go_enter Tryz.func199, Tryz.ntmps199
  go_wp2_with (first | (go_at_call 236; refine (H2.out _).mono ?_; rintro e w1 ⟨⟨n, rfl⟩, rfl⟩) | (go_at_call 246; refine (H.out _ _).mono ?_; rintro e w1 ⟨rfl, rfl⟩))
  go_end0
  exact ⟨rfl, rfl⟩

theorem sortSG_row (v : Value) (zs : List ByteArray) (B : Nat) (w : World) (hn : zs.length ≤ 16777216) (h : w.ownsRow B 9 1 v zs.length (strs zs)) :
    Calls Tryz.prog 199 #[v] w fun e w' => e = .returned (.tuple #[]) ∧ w'.ownsRow B 9 1 v zs.length (strs (sortB zs)) ∧ Kept (fun q => v.ownBlock = some q) w w' := by
  rcases h.2 with ⟨rfl, h0⟩ | ⟨g, c, cur, rfl, _⟩
  · refine (sortSG_none w).mono ?_
    rintro e w' ⟨rfl, rfl⟩
    have hz : zs = [] := List.length_eq_zero_iff.1 h0
    subst hz
    exact ⟨rfl, by rw [show sortB [] = [] from by simp [sortB, lsB]]; exact h, Kept.refl _ _⟩
  refine (sortSG_any g c zs B w hn h).mono ?_
  rintro e w' ⟨rfl, ho, hg⟩
  exact ⟨rfl, ho, kept_of_grown hg⟩

theorem compactS_none (w : World) : Calls Tryz.prog 200 #[.slice none 0 0] w fun e w' => e = .returned (.slice none 0 0) ∧ w = w' := by
  go_enter Tryz.func200, Tryz.ntmps200
  go_wp2_with fail
  go_ret
  exact ⟨rfl, rfl⟩
theorem compactS_row (v : Value) (zs : List ByteArray) (B : Nat) (w : World) (hn : zs.length ≤ 1000000) (h : w.ownsRow B 9 1 v zs.length (strs zs)) :
    Calls Tryz.prog 200 #[v] w fun e w' => ∃ u, e = .returned u ∧ w'.ownsRow B 9 1 u (compC default zs zs.length).length (strs (compC default zs zs.length)) ∧ Kept (fun q => v.ownBlock = some q) w w' := by
  rcases h.2 with ⟨rfl, h0⟩ | ⟨g, c, cur, rfl, _⟩
  · refine (compactS_none w).mono ?_
    rintro e w' ⟨rfl, rfl⟩
    have hz : zs = [] := List.length_eq_zero_iff.1 h0
    subst hz
    exact ⟨_, rfl, h, Kept.refl _ _⟩
  refine (compactS_any g c B zs w hn h).mono ?_
  rintro e w' ⟨rfl, ho, hg⟩
  exact ⟨_, rfl, ho, kept_of_grown hg⟩

theorem sortedNames_any (A : Option Addr) (c : Nat) (l : List ByteArray) (w : World) (hn : l.length ≤ 1000000) (hA : Cells w A (strs l)) :
    Calls Tryz.prog 120 #[.slice A l.length c] w fun e w' => ∃ u, e = .returned u ∧ w'.ownsRow w.heap.size 9 1 u (sortS l).length (strs (sortS l)) ∧ Below w.heap.size w w' := by
  have HC := Lib.hid (cloneSG_any A c l w (by omega) hA)
  have HSB := Lib.hid (sortB_len l)
  have HSC := Lib.hid (sort_comp l)
  clear hA
  go_enter Tryz.func120, Tryz.ntmps120
  go_wp2_with fail
  (with_reducible refine HC.out.mono ?_)
  rintro e w1 ⟨u, rfl, hu, hb1⟩
  have HS := Lib.hid (sortSG_row u l w.heap.size w1 (by omega) hu)
  have hlt := hu.lt
  have HB1 := Lib.hid hb1
  have HLT := Lib.hid hlt
  clear hu hb1 hlt
  go_wp2_with fail
  (with_reducible refine HS.out.mono ?_)
  rintro e w2 ⟨rfl, ho2, hk2⟩
  have HB2 := Lib.hid (HB1.out.trans (hk2.below (fun q hq => (HLT.out q hq).1) HB1.out.size))
  have hm : (sortB l).length ≤ 1000000 := by rw [HSB.out]; exact hn
  rw [← HSB.out] at ho2
  have hlt2 := ho2.lt
  have HLT2 := Lib.hid hlt2
  have HP := Lib.hid (compactS_row u (sortB l) w.heap.size w2 hm ho2)
  clear ho2 hk2 hlt2 hm
  go_wp2_with fail
  (with_reducible refine HP.out.mono ?_)
  rintro e w3 ⟨v, rfl, ho3, hk3⟩
  rw [HSB.out, HSC.out] at ho3
  have HO3 := Lib.hid ho3
  have HB3 := Lib.hid (HB2.out.trans (hk3.below (fun q hq => (HLT2.out q hq).1) HB2.out.size))
  clear ho3 hk3
  go_wp2_with fail
  go_ret
  exact ⟨_, rfl, HO3.out, HB3.out⟩

end Go.Proofs.YtijkdpdmclkmlaaGreatDoor
