/- The reference's reader of one token, walked. DERIVED: THE SHELF's CONTRACTS AT THIS DUMP, IN PLAIN WORDS (tools/lay-plain.mjs out of 'YtdgnhfhaaghoaaaGreatDoorShelfGA.lean', which tools/lay-shelf.mjs wrote): THE SAME DECLARATIONS UNDER THE SAME NAMES: 'import', 'namespace', 'open', 'def', 'theorem' AND NOTHING ELSE: no command of the shelf's: FOR A HAND-IN. Each laying: the table of numbers ('.._ren') and one theorem, a field a fact of the dump's own or the kernel's comparison; each contract: ONE APPLICATION. -/
import Derived.Test.YtdgnhfhaaghoaaaGreatDoorProg
import Derived.Test.YtdgnhfhaaghoaaaGreatDoorJ43
import Derived.Ground.NamesProg
import Derived.Shelf.Small.Strs
set_option linter.unusedSimpArgs false
set_option linter.unusedVariables false
namespace Go.Proofs.YtdgnhfhaaghoaaaGreatDoor
open Go.RowKit

theorem tok_head (s : ByteArray) (h : 0 < s.size) : s.data.toList = s[0] :: s.data.toList.drop 1 := by
  have hl : 0 < s.data.toList.length := by simpa using h
  rw [show s.data.toList.drop 1 = s.data.toList.tail by simp]
  cases hd : s.data.toList with
  | nil => rw [hd] at hl; simp at hl
  | cons c r =>
    have : s[0] = s.data.toList[0] := rfl
    rw [List.tail_cons]
    congr 1
    rw [this]
    simp [hd]

theorem drop_at (s : ByteArray) (k : Nat) (h : k < s.size) : s.data.toList.drop k = s[k] :: s.data.toList.drop (k + 1) := by
  have hl : k < s.data.toList.length := by simpa using h
  rw [List.drop_eq_getElem_cons hl]
  rfl

theorem beqU (c : UInt8) (n : Nat) (hn : n < 256) (b : Bool) (h : ((c.toNat : Int) == (n : Int)) = b) : (c == UInt8.ofNat n) = b := by
  cases b
  · rw [beq_eq_false_iff_ne] at h ⊢
    intro e
    subst e
    exact h (by rw [UInt8.toNat_ofNat_of_lt' (by omega)])
  · rw [beq_iff_eq] at h ⊢
    have : c.toNat = n := by omega
    rw [← this]
    simp

theorem extr (s : ByteArray) (k : Nat) : (s.extract k s.size).data.toList = s.data.toList.drop k := by
  rw [Lib.extract_eq]
  simp
  rw [List.take_of_length_le]
  simp

theorem owns_new (w : World) (xs : List Value) (e : TypeId) (n : Nat) (hn : xs.length = n) (h0 : n ≤ 1000) :
    (w.alloc (.cells xs.toArray e)).ownsRow w.heap.size e 1 (.slice (some ⟨w.heap.size, 0, none⟩) n n) n xs := by
  subst hn
  exact ⟨by omega, .inr ⟨w.heap.size, xs.length, xs.toArray, rfl, Nat.le_refl _, heap_alloc_new _ _, Nat.le_refl _, by unfold maxLen; omega, by simp, by simp⟩⟩

theorem wrap48 (b : UInt8) : wrap64 (wrap64 (b.toNat : Int) - 48) = (b.toNat : Int) - 48 := by
  have := b.toNat_lt
  unfold wrap64
  omega

theorem owns_two (w : World) (k d : Int) (x : Int) (h : x = d) :
    (w.alloc (.cells #[.int .i64 k, .int .i64 x] 3)).ownsRow w.heap.size 3 1 (.slice (some ⟨w.heap.size, 0, none⟩) 2 2) 2 (ints [k, d]) := by
  subst h
  exact owns_new w (ints [k, x]) _ 2 rfl (by decide)

set_option maxRecDepth 100000 in
set_option maxHeartbeats 4000000 in
theorem l11Token_any (s : ByteArray) (w : World) (h0 : 0 < s.size) (hs : s.size ≤ 1048576) :
    Calls Tryz.prog 81 #[.string s] w fun e w' => ∃ v s', e = .returned (.tuple #[v, .string s']) ∧ s'.data.toList = (tok s.data.toList).2 ∧ w'.ownsRow w.heap.size 3 1 v (tok s.data.toList).1.length (ints (tok s.data.toList).1) ∧ Below w.heap.size w w' := by
  have hh := tok_head s h0
  by_cases g116 : ((s[0].toNat : Int) == 116) = true
  · have c116 : (s[0] == 116) = true := beqU s[0] 116 (by decide) true g116
    have HT := Lib.hid (show tok s.data.toList = (([0] : List Int), s.data.toList.drop 1) by
      rw [congrArg tok hh]
      simp only [tok, c116, Bool.false_eq_true, if_true, if_false])
    clear hh
    go_enter Tryz.func81, Tryz.ntmps81
    go_wp2
    go_region
    all_goals (try go_wp2)
    all_goals go_ret2
    all_goals (refine ⟨_, _, rfl, ?_, ?_, ?_⟩)
    · rw [HT.out]; exact extr s 1
    · rw [HT.out]; exact owns_new w (ints [0]) _ 1 rfl (by decide)
    · exact ((Below.refl _ _).alloc (Nat.le_refl _) _).drew
  · have g116 : ((s[0].toNat : Int) == 116) = false := by simpa using g116
    have c116 : (s[0] == 116) = false := beqU s[0] 116 (by decide) false g116
    by_cases g33 : ((s[0].toNat : Int) == 33) = true
    · have c33 : (s[0] == 33) = true := beqU s[0] 33 (by decide) true g33
      have HT := Lib.hid (show tok s.data.toList = (([2] : List Int), s.data.toList.drop 1) by
        rw [congrArg tok hh]
        simp only [tok, c116, c33, Bool.false_eq_true, if_true, if_false])
      clear hh
      go_enter Tryz.func81, Tryz.ntmps81
      go_wp2
      go_region
      all_goals (try go_wp2)
      all_goals go_ret2
      all_goals (refine ⟨_, _, rfl, ?_, ?_, ?_⟩)
      · rw [HT.out]; exact extr s 1
      · rw [HT.out]; exact owns_new w (ints [2]) _ 1 rfl (by decide)
      · exact ((Below.refl _ _).alloc (Nat.le_refl _) _).drew
    · have g33 : ((s[0].toNat : Int) == 33) = false := by simpa using g33
      have c33 : (s[0] == 33) = false := beqU s[0] 33 (by decide) false g33
      by_cases g38 : ((s[0].toNat : Int) == 38) = true
      · have c38 : (s[0] == 38) = true := beqU s[0] 38 (by decide) true g38
        have HT := Lib.hid (show tok s.data.toList = (([3] : List Int), s.data.toList.drop 1) by
          rw [congrArg tok hh]
          simp only [tok, c116, c33, c38, Bool.false_eq_true, if_true, if_false])
        clear hh
        go_enter Tryz.func81, Tryz.ntmps81
        go_wp2
        go_region
        all_goals (try go_wp2)
        all_goals go_ret2
        all_goals (refine ⟨_, _, rfl, ?_, ?_, ?_⟩)
        · rw [HT.out]; exact extr s 1
        · rw [HT.out]; exact owns_new w (ints [3]) _ 1 rfl (by decide)
        · exact ((Below.refl _ _).alloc (Nat.le_refl _) _).drew
      · have g38 : ((s[0].toNat : Int) == 38) = false := by simpa using g38
        have c38 : (s[0] == 38) = false := beqU s[0] 38 (by decide) false g38
        by_cases g109 : ((s[0].toNat : Int) == 109) = true
        · have c109 : (s[0] == 109) = true := beqU s[0] 109 (by decide) true g109
          by_cases z1 : 1 < s.size
          · have d1 := drop_at s 1 z1
            have y1 : (1 : Int) < (s.size : Int) := by omega
            have HT := Lib.hid (show tok s.data.toList = (([1, (s[1].toNat : Int) - 48] : List Int), s.data.toList.drop 2) by
              rw [congrArg tok hh]
              rw [d1]
              simp only [tok, c116, c33, c38, c109, Bool.false_eq_true, if_true, if_false])
            clear hh d1
            go_enter Tryz.func81, Tryz.ntmps81
            go_wp2
            go_region
            all_goals (try go_wp2)
            all_goals go_ret2
            all_goals (refine ⟨_, _, rfl, ?_, ?_, ?_⟩)
            · rw [HT.out]; exact extr s 2
            · rw [HT.out]; exact owns_two w 1 _ _ (wrap48 s[1])
            · exact ((Below.refl _ _).alloc (Nat.le_refl _) _).drew
          · have hz : s.data.toList.drop 1 = [] := List.drop_eq_nil_of_le (by simp; omega)
            have HT := Lib.hid (show tok s.data.toList = (([-1] : List Int), s.data.toList.drop 1) by
              rw [congrArg tok hh]
              rw [hz]
              simp only [tok, c116, c33, c38, c109, Bool.false_eq_true, if_true, if_false])
            clear hh hz
            go_enter Tryz.func81, Tryz.ntmps81
            go_wp2
            go_region
            all_goals (try go_wp2)
            all_goals go_ret2
            all_goals (refine ⟨_, _, rfl, ?_, ?_, ?_⟩)
            · rw [HT.out]; exact extr s 1
            · rw [HT.out]; exact owns_new w (ints [-1]) _ 1 rfl (by decide)
            · exact ((Below.refl _ _).alloc (Nat.le_refl _) _).drew
        · have g109 : ((s[0].toNat : Int) == 109) = false := by simpa using g109
          have c109 : (s[0] == 109) = false := beqU s[0] 109 (by decide) false g109
          by_cases g60 : ((s[0].toNat : Int) == 60) = true
          · have c60 : (s[0] == 60) = true := beqU s[0] 60 (by decide) true g60
            by_cases z2 : 2 < s.size
            · have z1 : 1 < s.size := by omega
              have d1 := drop_at s 1 z1
              have d2 := drop_at s 2 z2
              by_cases g62 : ((s[2].toNat : Int) == 62) = true
              · have c62 : (s[2] == 62) = true := beqU s[2] 62 (by decide) true g62
                have HT := Lib.hid (show tok s.data.toList = (([4, (s[1].toNat : Int) - 48] : List Int), s.data.toList.drop 3) by
                  rw [congrArg tok hh]
                  rw [d1, d2]
                  simp only [tok, c116, c33, c38, c109, c60, c62, Bool.false_eq_true, if_true, if_false])
                have z3 : 3 ≤ s.size := by omega
                have y1 : (1 : Int) < (s.size : Int) := by omega
                have y3 : (3 : Int) ≤ (s.size : Int) := by omega
                clear hh d1 d2
                go_enter Tryz.func81, Tryz.ntmps81
                go_wp2
                go_region
                all_goals (try go_wp2)
                all_goals go_ret2
                all_goals (refine ⟨_, _, rfl, ?_, ?_, ?_⟩)
                · rw [HT.out]; exact extr s 3
                · rw [HT.out]; exact owns_two w 4 _ _ (wrap48 s[1])
                · exact ((Below.refl _ _).alloc (Nat.le_refl _) _).drew
              · have g62 : ((s[2].toNat : Int) == 62) = false := by simpa using g62
                have c62 : (s[2] == 62) = false := beqU s[2] 62 (by decide) false g62
                have HT := Lib.hid (show tok s.data.toList = (([-1] : List Int), s.data.toList.drop 1) by
                  rw [congrArg tok hh]
                  rw [d1, d2]
                  simp only [tok, c116, c33, c38, c109, c60, c62, Bool.false_eq_true, if_true, if_false])
                clear hh d1 d2
                go_enter Tryz.func81, Tryz.ntmps81
                go_wp2
                go_region
                all_goals (try go_wp2)
                all_goals go_ret2
                all_goals (refine ⟨_, _, rfl, ?_, ?_, ?_⟩)
                · rw [HT.out]; exact extr s 1
                · rw [HT.out]; exact owns_new w (ints [-1]) _ 1 rfl (by decide)
                · exact ((Below.refl _ _).alloc (Nat.le_refl _) _).drew
            · have hl : (s.data.toList.drop 1).length ≤ 1 := by simp; omega
              have HT := Lib.hid (show tok s.data.toList = (([-1] : List Int), s.data.toList.drop 1) by
                rw [congrArg tok hh]
                rcases hd : s.data.toList.drop 1 with _ | ⟨d, _ | ⟨e, r⟩⟩
                · simp only [tok, c116, c33, c38, c109, c60, Bool.false_eq_true, if_true, if_false]
                · simp only [tok, c116, c33, c38, c109, c60, Bool.false_eq_true, if_true, if_false]
                · rw [hd] at hl; simp at hl)
              clear hh hl
              go_enter Tryz.func81, Tryz.ntmps81
              go_wp2
              go_region
              all_goals (try go_wp2)
              all_goals go_ret2
              all_goals (refine ⟨_, _, rfl, ?_, ?_, ?_⟩)
              · rw [HT.out]; exact extr s 1
              · rw [HT.out]; exact owns_new w (ints [-1]) _ 1 rfl (by decide)
              · exact ((Below.refl _ _).alloc (Nat.le_refl _) _).drew
          · have g60 : ((s[0].toNat : Int) == 60) = false := by simpa using g60
            have c60 : (s[0] == 60) = false := beqU s[0] 60 (by decide) false g60
            have HT := Lib.hid (show tok s.data.toList = (([-1] : List Int), s.data.toList.drop 1) by
              rw [congrArg tok hh]
              simp only [tok, c116, c33, c38, c109, c60, Bool.false_eq_true, if_true, if_false])
            clear hh
            go_enter Tryz.func81, Tryz.ntmps81
            go_wp2
            go_region
            all_goals (try go_wp2)
            all_goals go_ret2
            all_goals (refine ⟨_, _, rfl, ?_, ?_, ?_⟩)
            · rw [HT.out]; exact extr s 1
            · rw [HT.out]; exact owns_new w (ints [-1]) _ 1 rfl (by decide)
            · exact ((Below.refl _ _).alloc (Nat.le_refl _) _).drew

end Go.Proofs.YtdgnhfhaaghoaaaGreatDoor

namespace Go.Proofs
open Go.Shelf
def Tryz.lays137_ren : Go.Shelf.Ren := ⟨fun | 137 => 77 | 217 => 147 | 266 => 176 | n => n, fun | 9 => 9 | 5 => 5 | 3 => 3 | n => n, fun | n => n⟩
theorem Tryz.lays137 : Go.Proofs.Lays.n137 Tryz.prog Tryz.lays137_ren := {
  mixed := by kernel_rfl
  f137 := Tryz.func77.trans (congrArg some (by kernel_rfl))
  f217 := Tryz.func147.trans (congrArg some (by kernel_rfl))
  f266 := Tryz.func176.trans (congrArg some (by kernel_rfl))
  t3 := Tryz.underlying3
  a3 := Tryz.isAgg3
  z3 := Tryz.sizeOf3
  v3 := Tryz.zeroValue3
  t5 := Tryz.underlying5
  a5 := Tryz.isAgg5
  z5 := Tryz.sizeOf5
  v5 := Tryz.zeroValue5
  t9 := Tryz.underlying9
  a9 := Tryz.isAgg9
  z9 := Tryz.sizeOf9
  v9 := Tryz.zeroValue9 }
end Go.Proofs
