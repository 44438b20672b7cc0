/- Names: what program and reference take for a name, walked; both are the same test of the text. -/
import Derived.Test.YtmnnbgciakigfaaDoorProg
import Derived.Test.YtmnnbgciakigfaaDoorBase
import Derived.Test.YtmnnbgciakigfaaDoorFormA
import Derived.Test.YtmnnbgciakigfaaDoorShelf
set_option linter.unusedVariables false
namespace Go.Proofs.YtmnnbgciakigfaaDoor
open Go.RowKit

def isLow (b : UInt8) : Bool := decide (97 ≤ b.toNat) && decide (b.toNat ≤ 122)
def lowB (s : ByteArray) : Bool := s.data.toList.all isLow
def nameB (s : ByteArray) : Bool := inB s.size 1 4 && lowB s

def lows : ByteArray := ⟨#[97, 98, 99, 100, 101, 102, 103, 104, 105, 106, 107, 108, 109, 110, 111, 112, 113, 114, 115, 116, 117, 118, 119, 120, 121, 122]⟩

theorem lows_nat : ∀ n : Fin 256, lows.data.toList.contains (UInt8.ofNat n.val) = (decide (97 ≤ n.val) && decide (n.val ≤ 122)) := by decide +kernel
theorem lows_has (b : UInt8) : lows.data.toList.contains b = isLow b := by
  have := lows_nat ⟨b.toNat, b.toNat_lt⟩
  simpa [isLow] using this

theorem dropWhile_nil {α : Type} (p : α → Bool) (l : List α) : l.dropWhile p = [] ↔ l.all p = true := by
  induction l with
  | nil => simp
  | cons a r ih =>
    by_cases h : p a = true
    · simp [List.dropWhile_cons, h, ih]
    · simp [List.dropWhile_cons, h]

theorem trim_lows (s : ByteArray) : Lib.trimS s.data.toList lows.data.toList = [] ↔ lowB s = true := by
  have e : (fun x => lows.data.toList.contains x) = isLow := funext lows_has
  unfold lowB Lib.trimS
  unfold Lib.trimRightS Lib.trimLeftS
  rw [e, dropWhile_nil, List.all_reverse, ← List.all_reverse (l := s.data.toList), ← dropWhile_nil isLow s.data.toList.reverse]
  generalize s.data.toList.reverse = l
  constructor
  · intro h
    by_cases hn : l.dropWhile isLow = []
    · exact hn
    · exfalso
      have h2 := List.head_dropWhile_not isLow (l := l) hn
      have h3 := List.all_eq_true.1 h _ (List.head_mem hn)
      simp [h3] at h2
  · intro h
    rw [h]
    rfl

theorem info_set : (Tryd.prog.info? (Tryd.lays160_ren.t 116)).map (fun i => (i.zero, i.size)) = some (some (.agg (Array.replicate 256 (.bool false))), 256) := by kernel_rfl

theorem trim_any (s : ByteArray) (w : World) (hs : s.size ≤ maxLen) :
    Calls Tryd.prog 63 #[.string s, .string lows] w fun e w' => e = .returned (.string ⟨(Lib.trimS s.data.toList lows.data.toList).toArray⟩) ∧ Below w.heap.size w w' :=
  Any.strings_Trim_laid Tryd.lays160 info_set s lows w (by unfold maxLen at hs; omega) (by decide) (ascii_of_all (by decide +kernel))

set_option maxHeartbeats 400000 in
theorem isName_any (s : ByteArray) (w : World) (hs : s.size ≤ maxLen) :
    Calls Tryd.prog 57 #[.string s] w fun e w' => e = .returned (.bool (nameB s)) ∧ Below w.heap.size w w' := by
  have H := Lib.hid (trim_any s w hs)
  have hT := trim_lows s
  have hs' : s.size ≤ 9223372036854775807 := by unfold maxLen at hs; omega
  clear hs
  unfold nameB
  generalize Lib.trimS s.data.toList lows.data.toList = r at *
  by_cases hin : inB s.size 1 4 = true
  · rw [hin, Bool.true_and]
    by_cases hl : lowB s = true
    · obtain rfl := hT.2 hl
      rw [hl]
      go_enter Tryd.func57, Tryd.ntmps57
      go_wp2_with ((with_reducible refine (within_any ..).mono ?_); rintro e w' ⟨rfl, rfl⟩)
      refine H.out.mono ?_
      rintro e w1 ⟨rfl, hb⟩
      go_wp2
      go_ret
      exact ⟨rfl, hb⟩
    · have hl' : lowB s = false := by simpa using hl
      have hr : r ≠ [] := fun e => hl (hT.1 e)
      have he : r.isEmpty = false := by simpa using hr
      clear hT hr hl
      rw [hl']
      go_enter Tryd.func57, Tryd.ntmps57
      go_wp2_with ((with_reducible refine (within_any ..).mono ?_); rintro e w' ⟨rfl, rfl⟩)
      refine H.out.mono ?_
      rintro e w1 ⟨rfl, hb⟩
      go_wp2
      go_ret
      exact ⟨rfl, hb⟩
  · have hin' : inB s.size 1 4 = false := by simpa using hin
    clear hin hT
    rw [hin', Bool.false_and]
    go_enter Tryd.func57, Tryd.ntmps57
    go_wp2_with ((with_reducible refine (within_any ..).mono ?_); rintro e w' ⟨rfl, rfl⟩)
    go_ret
    exact ⟨rfl, Below.refl _ _⟩

theorem byte_at (s : ByteArray) (k : Nat) (h : k < s.size) : s.data.toList[k]? = some (s.data.toList[k]'(by simpa using h)) := List.getElem?_eq_getElem _

set_option maxHeartbeats 400000 in
theorem l2Name_any (s : ByteArray) (w : World) (hs : s.size ≤ maxLen) :
    Calls Tryd.prog 61 #[.string s] w fun e w' => e = .returned (.bool (nameB s)) ∧ w = w' := by
  have hs' : s.size ≤ 9223372036854775807 := by unfold maxLen at hs; omega
  clear hs
  go_enter Tryd.func61, Tryd.ntmps61
  go_wp2
  go_loop [3] (fun i => ∃ k : Nat, k ≤ s.size ∧ i = .int .i64 k ∧ (s.data.toList.take k).all isLow = true) (fun i => s.size - (intOf i).toNat)
  case atStart => exact ⟨0, Nat.zero_le _, rfl, rfl⟩
  case round =>
    obtain ⟨k, hk, rfl, hall⟩ := hrel
    by_cases hlt : k < s.size
    · have hlt' : k < s.data.toList.length := by simpa using hlt
      have hb : s.data.toList[k] = s[k] := rfl
      have HF := Lib.hid (show isLow s[k] = false → nameB s = false from fun h => by
        have : lowB s = false := by
          unfold lowB
          rw [List.all_eq_false]
          exact ⟨s.data.toList[k], List.getElem_mem _, by rw [hb, h]; decide⟩
        unfold nameB
        rw [this, Bool.and_false])
      have HG := Lib.hid (show isLow s[k] = true → (s.data.toList.take (k + 1)).all isLow = true from fun h => by
        rw [List.take_succ_eq_append_getElem hlt', List.all_append, hall, hb]
        simp [h])
      clear hall hb
      go_wp2
      all_goals first
        | (go_ret; exact ⟨by rw [HF.out (by simp [isLow]; omega)]; rfl, rfl⟩)
        | skip
      go_round
      case rel => exact ⟨k + 1, by omega, by go_num, HG.out (by simp [isLow]; omega)⟩
      case measure => simp [intOf]; omega
    · obtain rfl : k = s.size := by omega
      have he : lowB s = true := by
        unfold lowB
        rw [List.take_of_length_le (by simp)] at hall
        exact hall
      have HE := Lib.hid (show nameB s = inB s.size 1 4 by unfold nameB; rw [he, Bool.and_true])
      clear hall he
      go_wp2_with ((with_reducible refine (l1In_any ..).mono ?_); rintro e w' ⟨rfl, rfl⟩)
      go_ret
      exact ⟨by rw [HE.out]; rfl, rfl⟩

end Go.Proofs.YtmnnbgciakigfaaDoor
