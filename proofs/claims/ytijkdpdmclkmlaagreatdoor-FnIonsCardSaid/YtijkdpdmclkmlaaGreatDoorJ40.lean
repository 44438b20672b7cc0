/- The law of inverses: plain. The laws of elements and of ions: plain. Elements: identities and permutations of both packages, with their checks: walked. Elements: swaps, merges, barren roots: walked. -/
import Derived.Test.YtijkdpdmclkmlaaGreatDoorJ39
import Derived.Test.YtijkdpdmclkmlaaGreatDoorJ29
import Derived.Test.YtijkdpdmclkmlaaGreatDoorProg
import Derived.Test.YtijkdpdmclkmlaaGreatDoorJ0
import Derived.Test.YtijkdpdmclkmlaaGreatDoorJ21
import Derived.Test.YtijkdpdmclkmlaaGreatDoorJ3
import Derived.Test.YtijkdpdmclkmlaaGreatDoorJ16
import Derived.Test.YtijkdpdmclkmlaaGreatDoorJ24
import Derived.BigQuiet
import Derived.Test.YtijkdpdmclkmlaaGreatDoorJ17
import Derived.Test.YtijkdpdmclkmlaaGreatDoorJ10
import Derived.Test.YtijkdpdmclkmlaaGreatDoorJ26
import Derived.Test.YtijkdpdmclkmlaaGreatDoorJ28
import Derived.Test.YtijkdpdmclkmlaaGreatDoorJ6
import Derived.Test.YtijkdpdmclkmlaaGreatDoorJ7
import Derived.Test.YtijkdpdmclkmlaaGreatDoorJ31
import Derived.Laws.CopyOwn
import Derived.IntWalk
import Derived.Deep.RegionHeld3
import Derived.StillTailTactics
set_option linter.unusedSimpArgs false
set_option linter.unusedVariables false
set_option maxRecDepth 100000
set_option maxHeartbeats 16000000
namespace Go.Proofs.YtijkdpdmclkmlaaGreatDoor
open Go.RowKit
theorem comp_ok {sig : List Ct} {a b : Gr} (ha : GoodP sig a) (hb : GoodP sig b) (hf : FitsP a b) (hc : GoodP sig (compG a b)) : compR sig a b = true := by
  unfold compR
  rw [(good_iff sig a).2 ha, (good_iff sig b).2 hb, (fits_iff a b).2 hf, (good_iff sig _).2 hc]
  rfl

/-- The signature with the one control 'k'. -/
def sigK : List Ct := [(⟨#[107]⟩, 0, 0)]
theorem sigK_ok : sigB sigK = true := by decide

section
variable {n m k : Nat} {names : List ByteArray} {t : List Int}
end

theorem l3Names_any (A : Option Addr) (c : Nat) (l : List ByteArray) (w : World) (hl : l.length ≤ 1000) (hz : ∀ s ∈ l, s.size ≤ 1000) (hA : Cells w A (strs l)) :
    Calls Tryz.prog 94 #[.slice A l.length c] w fun e w' => e = .returned (.bool (namesB l)) ∧ Below w.heap.size w w' := by
  have HN := Lib.hid (l2Names_any A c l w hl hz hA)
  clear hA hz
  go_enter Tryz.func94, Tryz.ntmps94
  go_wp2_with fail
  (with_reducible refine HN.out.mono ?_)
  rintro e w1 ⟨rfl, hb1⟩
  have HB := Lib.hid hb1
  clear hb1
  go_wp2_with fail
  go_ret
  exact ⟨rfl, HB.out⟩

theorem implBarrenOf_any (n : Int) (w : World) :
    Calls Tryz.prog 24 #[.int .i64 n] w fun e w' => ∃ X : BX, e = .returned (.tuple #[.agg X.cells, .bool (inB n 0 4)]) ∧ X.g = (if inB n 0 4 then barG n else zeroG) ∧ RG w w' X := by
  obtain ⟨w0, hw0, hb0, hs0, hR0⟩ := laid1 w (.cells ZB 31)
  have HB0 := Lib.hid hb0
  have HR0 := Lib.hid hR0
  have HW0 := Lib.hid (show w.alloc (.cells #[.int .i64 0, .slice none 0 0, .slice none 0 0, .int .i64 0, .slice none 0 0, .slice none 0 0] 31) = w0 from hw0.symm)
  clear hb0 hR0 hw0
  have HB1 := Lib.hid (Below.refl w0.heap.size w0)
  cases c0 : inB n 0 4
  · have HIN := Lib.hid (show ∀ w, Calls Tryz.prog 90 #[.int .i64 n, .int .i64 0, .int .i64 4] w (fun e w' => e = .returned (.bool false) ∧ w = w') from fun w => by have h := within_any n 0 4 w; rw [c0] at h; exact h)
    clear c0
    go_enter Tryz.func24, Tryz.ntmps24
    go_wp2_with fail
    rw [HW0.out]
    (with_reducible refine (HIN.out _).mono ?_)
    rintro e w' ⟨rfl, rfl⟩
    have hRW := (HB1.out.block w.heap.size (by omega)).trans HR0.out
    obtain ⟨z0, z1, z2, z3, z4, z5, f0, f1, f2, f3, f4, f5⟩ := row6f hRW
    clear hRW
    go_wp2_with fail
    have hf := fin6_of (X := zeroX) HB0.out HR0.out (by have := (Kept.of_below HB1.out (fun q => w.heap.size + 1 ≤ q)).size; omega) ((Kept.of_below HB1.out (fun q => w.heap.size + 1 ≤ q))) (zero_ob _ _)
    (try simp only [Exit.inBlock, Exit.then])
    refine bodyPost_ret (rcell2 rfl _ _ w.heap.size _ _ _ _ rfl hf.1 Tryz.underlying31 rfl (by kernel_rfl)) rfl ?_
    exact ⟨_, rfl, rfl, hf.2⟩
  have HIN := Lib.hid (show ∀ w, Calls Tryz.prog 90 #[.int .i64 n, .int .i64 0, .int .i64 4] w (fun e w' => e = .returned (.bool true) ∧ w = w') from fun w => by have h := within_any n 0 4 w; rw [c0] at h; exact h)
  clear c0
  go_enter Tryz.func24, Tryz.ntmps24
  go_wp2_with fail
  rw [HW0.out]
  (with_reducible refine (HIN.out _).mono ?_)
  rintro e w' ⟨rfl, rfl⟩
  have hRW := (HB1.out.block w.heap.size (by omega)).trans HR0.out
  obtain ⟨z0, z1, z2, z3, z4, z5, f0, f1, f2, f3, f4, f5⟩ := row6f hRW
  clear hRW
  go_wp2_with fail
  have hf := fin6_of (X := ⟨n, 0, nilV, nilV, nilV, nilV, [], [], [], [], []⟩) HB0.out HR0.out (by have := (Kept.of_below HB1.out (fun q => w.heap.size + 1 ≤ q)).size; omega) ((Kept.of_below HB1.out (fun q => w.heap.size + 1 ≤ q))) (ob_none _ _ _ _)
  (try simp only [Exit.inBlock, Exit.then])
  refine bodyPost_ret (rcell2 rfl _ _ w.heap.size _ _ _ _ rfl hf.1 Tryz.underlying31 rfl (by kernel_rfl)) rfl ?_
  exact ⟨_, rfl, rfl, hf.2⟩

end Go.Proofs.YtijkdpdmclkmlaaGreatDoor
