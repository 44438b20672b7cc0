/- The checksums of both, walked. -/
import Derived.Test.YtbobohfhplfpgaaDoorSTxt
set_option linter.unusedVariables false
namespace Go.Proofs.YtbobohfhplfpgaaDoor
open Go.RowKit

theorem csum_take {l : List UInt8} {k : Nat} (h : k < l.length) : csum (l.take (k + 1)) = csStep (csum (l.take k)) (l.getD k 0) := by
  have e : l.getD k 0 = l[k] := by simp [List.getD, h]
  rw [e, List.take_succ_eq_append_getElem h, csum, List.foldl_append]
  rfl
theorem ba_at {l : List UInt8} {k : Nat} (h : k < (ba l).size) : (ba l)[k] = l.getD k 0 := by
  have : k < l.length := by simpa [ba, ByteArray.size] using h
  simp [ba, List.getD, this, ByteArray.getElem_eq_getElem_data]
theorem ba_size (l : List UInt8) : (ba l).size = l.length := by simp [ba, ByteArray.size]
theorem cs_int {h : Nat} {b : UInt8} (hh : h < 999979) : Int.tmod (41 * (h : Int) + (b.toNat : Int) + 1) 999979 = (csStep h b : Int) ∧ b.toNat < 256 := by
  refine ⟨?_, b.toNat_lt⟩
  rw [Int.tmod_eq_emod_of_nonneg (by omega)]
  unfold csStep
  omega

set_option maxRecDepth 100000 in
set_option maxHeartbeats 2000000 in
theorem sumI_any (l : List UInt8) (w : World) (hl : l.length ≤ 1000000) :
    Calls Tryd.prog 28 #[.string (ba l)] w fun e w' => e = .returned (.int .i64 (csum l : Nat)) ∧ w = w' := by
  have HALL := Lib.hid (show csum (l.take l.length) = csum l by rw [List.take_length])
  have HT := Lib.hid (fun k (h : k < l.length) => csum_take h)
  have HLT := Lib.hid (fun k => csum_lt (l.take k))
  have HAT := Lib.hid (fun k (h : k < (ba l).size) => ba_at h)
  have hsz := ba_size l
  generalize ba l = S at *
  go_enter Tryd.func28, Tryd.ntmps28
  go_wp2_with fail
  go_loop [3, 4, 7] (fun h _ i => ∃ k : Nat, k ≤ l.length ∧ i = .int .i64 k ∧ h = .int .i64 (csum (l.take k) : Nat)) (fun _ _ i => l.length - (intOf i).toNat)
  case atStart => exact ⟨0, Nat.zero_le _, rfl, rfl⟩
  case round =>
    obtain ⟨k, hk, rfl, rfl⟩ := hrel
    by_cases hlt : k < l.length
    · have h1 := HLT.out k
      have h2 := HAT.out k (by omega)
      have h3 := cs_int (b := l.getD k 0) h1
      have HE := Lib.hid (HT.out k hlt)
      generalize l.getD k 0 = b at *
      generalize csum (l.take k) = H at *
      obtain ⟨h3, h4⟩ := h3
      go_wp2_with fail
      go_round
      case rel => exact ⟨k + 1, by omega, by simp, by rw [HE.out]⟩
      case measure => simp [intOf]; omega
    · obtain rfl : k = l.length := by omega
      go_wp2_with fail
      go_ret
      exact ⟨rfl, rfl⟩

set_option maxRecDepth 100000 in
set_option maxHeartbeats 2000000 in
theorem sumS_any (l : List UInt8) (w : World) (hl : l.length ≤ 1000000) :
    Calls Tryd.prog 36 #[.string (ba l)] w fun e w' => e = .returned (.int .i64 (csum l : Nat)) ∧ w = w' := by
  have HALL := Lib.hid (show csum (l.take l.length) = csum l by rw [List.take_length])
  have HT := Lib.hid (fun k (h : k < l.length) => csum_take h)
  have HLT := Lib.hid (fun k => csum_lt (l.take k))
  have HAT := Lib.hid (fun k (h : k < (ba l).size) => ba_at h)
  have hsz := ba_size l
  generalize ba l = S at *
  go_enter Tryd.func36, Tryd.ntmps36
  go_wp2_with fail
  go_loop [3, 4] (fun h i => ∃ k : Nat, k ≤ l.length ∧ i = .int .i64 k ∧ h = .int .i64 (csum (l.take k) : Nat)) (fun _ i => l.length - (intOf i).toNat)
  case atStart => exact ⟨0, Nat.zero_le _, rfl, rfl⟩
  case round =>
    obtain ⟨k, hk, rfl, rfl⟩ := hrel
    by_cases hlt : k < l.length
    · have h1 := HLT.out k
      have h2 := HAT.out k (by omega)
      have h3 := cs_int (b := l.getD k 0) h1
      have HE := Lib.hid (HT.out k hlt)
      generalize l.getD k 0 = b at *
      generalize csum (l.take k) = H at *
      obtain ⟨h3, h4⟩ := h3
      go_wp2_with fail
      go_round
      case rel => exact ⟨k + 1, by omega, by simp, by rw [HE.out]⟩
      case measure => simp [intOf]; omega
    · obtain rfl : k = l.length := by omega
      go_wp2_with fail
      go_ret
      exact ⟨rfl, rfl⟩

theorem not_take {l : List UInt8} {b : UInt8} {k : Nat} (h : k < l.length) (hn : b ∉ l.take k) (hk : (l.getD k 0 == b) = false) : b ∉ l.take (k + 1) := by
  have e : l.getD k 0 = l[k] := by simp [List.getD, h]
  rw [List.take_succ_eq_append_getElem h, List.mem_append, List.mem_singleton]
  rintro (h1 | h1)
  · exact hn h1
  · rw [e, ← h1] at hk
    simp at hk
theorem has_at {l : List UInt8} {b : UInt8} {k : Nat} (h : k < l.length) (hk : (l.getD k 0 == b) = true) : b ∈ l := by
  have e : l.getD k 0 = l[k] := by simp [List.getD, h]
  have := eq_of_beq hk
  rw [← this, e]
  exact List.getElem_mem h
theorem u8_eq {a b : UInt8} : (a == b) = decide ((a.toNat : Int) = (b.toNat : Int)) := by
  by_cases h : a = b
  · simp [h]
  · have : a.toNat ≠ b.toNat := fun e => h (UInt8.toNat_inj.1 e)
    rw [beq_eq_false_iff_ne.2 h, decide_eq_false (by omega)]

set_option maxRecDepth 100000 in
set_option maxHeartbeats 2000000 in
theorem stands_any (l : List UInt8) (b : UInt8) (w : World) (hl : l.length ≤ 1000000) :
    Calls Tryd.prog 29 #[.string (ba l), .int .u8 b.toNat] w fun e w' => e = .returned (.bool (decide (b ∈ l))) ∧ w = w' := by
  have HALL := Lib.hid (show l.take l.length = l by rw [List.take_length])
  have HN := Lib.hid (fun k (h : k < l.length) => not_take (b := b) h)
  have HH := Lib.hid (fun k (h : k < l.length) => has_at (b := b) h)
  have HAT := Lib.hid (fun k (h : k < (ba l).size) => ba_at h)
  have HEQ := Lib.hid (fun k => u8_eq (a := l.getD k 0) (b := b))
  have hsz := ba_size l
  generalize ba l = S at *
  have hb := b.toNat_lt
  go_enter Tryd.func29, Tryd.ntmps29
  go_wp2_with fail
  go_loop [5] (fun i => ∃ k : Nat, k ≤ l.length ∧ i = .int .i64 k ∧ b ∉ l.take k) (fun i => l.length - (intOf i).toNat)
  case atStart => exact ⟨0, Nat.zero_le _, rfl, by simp⟩
  case round =>
    obtain ⟨k, hk, rfl, hn⟩ := hrel
    have HNK := Lib.hid hn
    clear hn
    by_cases hlt : k < l.length
    · have h2 := HAT.out k (by omega)
      have HNN := Lib.hid (HN.out k hlt)
      have HHH := Lib.hid (HH.out k hlt)
      have he := HEQ.out k
      generalize l.getD k 0 = a at *
      by_cases hab : (a.toNat : Int) = (b.toNat : Int)
      · rw [decide_eq_true hab] at he
        have HR := Lib.hid (show decide (b ∈ l) = true from decide_eq_true (HHH.out he))
        clear he
        go_wp2_with fail
        go_ret
        exact ⟨by rw [HR.out]; rfl, rfl⟩
      · rw [decide_eq_false hab] at he
        have HR := Lib.hid (HNN.out HNK.out he)
        clear he
        have ha := a.toNat_lt
        go_wp2_with fail
        go_round
        case rel => exact ⟨k + 1, by omega, by simp, HR.out⟩
        case measure => simp [intOf]; omega
    · obtain rfl : k = l.length := by omega
      have HR := Lib.hid (show decide (b ∈ l) = false from decide_eq_false (HALL.out ▸ HNK.out))
      go_wp2_with fail
      go_ret
      exact ⟨by rw [HR.out]; rfl, rfl⟩

end Go.Proofs.YtbobohfhplfpgaaDoor
