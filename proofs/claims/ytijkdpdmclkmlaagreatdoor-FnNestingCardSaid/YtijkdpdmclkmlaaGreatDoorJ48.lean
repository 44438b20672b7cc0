/- The draw of a bigraph of some kind. -/
import Derived.Test.YtijkdpdmclkmlaaGreatDoorProg
import Derived.Test.YtijkdpdmclkmlaaGreatDoorJ0
import Derived.Test.YtijkdpdmclkmlaaGreatDoorJ4
import Derived.Test.YtijkdpdmclkmlaaGreatDoorJ15
import Derived.Test.YtijkdpdmclkmlaaGreatDoorJ13
import Derived.Test.YtijkdpdmclkmlaaGreatDoorJ47
import Derived.BigQuiet
import Derived.Test.YtijkdpdmclkmlaaGreatDoorJ19
import Derived.Test.YtijkdpdmclkmlaaGreatDoorJ3
import Derived.Test.YtijkdpdmclkmlaaGreatDoorJ14
import Derived.Test.YtijkdpdmclkmlaaGreatDoorJ20
import Derived.Test.YtijkdpdmclkmlaaGreatDoorJ10
import Derived.Test.YtijkdpdmclkmlaaGreatDoorJ6
import Derived.Test.YtijkdpdmclkmlaaGreatDoorJ8
import Derived.Test.YtijkdpdmclkmlaaGreatDoorJ16
import Derived.Test.YtijkdpdmclkmlaaGreatDoorJ7
import Derived.Test.YtijkdpdmclkmlaaGreatDoorJ1
import Derived.Test.YtijkdpdmclkmlaaGreatDoorJ21
import Derived.Test.YtijkdpdmclkmlaaGreatDoorJ5
set_option linter.unusedSimpArgs false
set_option linter.unusedVariables false
set_option maxRecDepth 100000
set_option maxHeartbeats 16000000
namespace Go.Proofs.YtijkdpdmclkmlaaGreatDoor
open Go.RowKit
theorem small_places (r : Int) (ss : List Int) (hr : -1000 ≤ r ∧ r ≤ 1000) (hl : ss.length ≤ 1000) (hb : ∀ p ∈ ss, -9223372036854775808 ≤ p) : SmallG ⟨r, [], ss, 0, [], []⟩ :=
  { nodes := Nat.zero_le _, links := fun x hx => (nomatch hx), sites := hl, outer := Nat.zero_le _, onames := fun s hs => (nomatch hs), inner := Nat.zero_le _, inames := fun x hx => (nomatch hx), edges := by show (-1000 : Int) ≤ 0 ∧ (0 : Int) ≤ 1000; omega, roots := hr, pars := fun x hx => (nomatch hx), sits := hb }
theorem idG_small {n : Nat} {l : List ByteArray} (hn : n ≤ 1000) (hl : l.length ≤ 1000) (hz : ∀ s ∈ l, s.size ≤ 1000) : SmallG (idG n l) :=
  { nodes := Nat.zero_le _, links := fun x hx => (nomatch hx), sites := by show ((List.range n).map _).length ≤ 1000; rw [List.length_map, List.length_range]; exact hn, outer := hl, onames := hz
    inner := by show ((List.range l.length).map _).length ≤ 1000; rw [List.length_map, List.length_range]; exact hl
    inames := fun x hx => by
      obtain ⟨i, hi, rfl⟩ := List.mem_map.1 hx
      have hi2 := List.mem_range.1 hi
      exact hz _ (by simp [List.getD, hi2])
    edges := by show (-1000 : Int) ≤ 0 ∧ (0 : Int) ≤ 1000; omega, roots := by show -1000 ≤ ((n : Nat) : Int) ∧ ((n : Nat) : Int) ≤ 1000; omega, pars := fun x hx => (nomatch hx)
    sits := fun p hp => by
      obtain ⟨i, hi, rfl⟩ := List.mem_map.1 hp
      have hi2 := List.mem_range.1 hi
      omega }
theorem zeroG_small : SmallG zeroG := small_places _ _ (by omega) (Nat.zero_le _) fun p hp => (nomatch hp)

end Go.Proofs.YtijkdpdmclkmlaaGreatDoor
