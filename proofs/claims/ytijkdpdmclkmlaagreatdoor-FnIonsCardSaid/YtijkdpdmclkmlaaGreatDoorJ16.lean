/- Idle links, and the inner names' list: both packages walked. -/
import Derived.Test.YtijkdpdmclkmlaaGreatDoorProg
import Derived.Test.YtijkdpdmclkmlaaGreatDoorJ0
import Derived.Test.YtijkdpdmclkmlaaGreatDoorJ14
import Derived.Test.YtijkdpdmclkmlaaGreatDoorJ15
set_option linter.unusedSimpArgs false
set_option linter.unusedVariables false
set_option maxRecDepth 100000
set_option maxHeartbeats 16000000
namespace Go.Proofs.YtijkdpdmclkmlaaGreatDoor
open Go.RowKit
theorem el_intG : El Tryz.prog 28 3 1 8 := El.mk' Tryz.underlying28 (by kernel_rfl : _ = some (some (.int .i64 0), 1, 8)) rfl (by decide)
def idleB (g : Gr) (link : Int) : Bool := ((ptsG g link).length : Int) == 0 && ((endsG g link).length : Int) == 0
theorem idle_add (g : Gr) (link : Int) : (((ptsG g link).length : Int) + ((endsG g link).length : Int) == 0) = idleB g link := by
  unfold idleB
  by_cases h1 : (ptsG g link).length = 0
  · by_cases h2 : (endsG g link).length = 0
    · rw [h1, h2]; rfl
    have e : (((endsG g link).length : Int) == 0) = false := by rw [beq_eq_false_iff_ne]; omega
    rw [e, Bool.and_false, beq_eq_false_iff_ne]; omega
  have e : (((ptsG g link).length : Int) == 0) = false := by rw [beq_eq_false_iff_ne]; omega
  rw [e, Bool.false_and, beq_eq_false_iff_ne]; omega
theorem none_row {w : World} {B : Nat} {e : TypeId} {s : Nat} : w.ownsRow B e s (.slice none 0 0) 0 [] := ⟨by simp, .inl ⟨rfl, rfl⟩⟩
theorem ints_app (l : List Int) (x : Int) : ints (l ++ [x]) = ints l ++ [.int .i64 x] := by simp [ints]

theorem isIdle_any (g : Gr) (nv sv ov iv : Value) (link : Int) (w : World) (hs : SmallG g) (hG : RGr w nv sv ov iv g) :
    Calls Tryz.prog 125 #[.agg #[.int .i64 g.roots, nv, sv, .int .i64 g.edges, ov, iv], .int .i64 link] w fun e w' => e = .returned (.bool (idleB g link)) ∧ Below w.heap.size w w' := by
  have HG := Lib.hid (show ∀ W, Below w.heap.size w W → RGr W nv sv ov iv g from fun W hb => hG.below hb)
  have n1 := pts_len hs link g.nodes.length (Nat.le_refl _)
  have n2 := ends_len g link g.inner.length
  have n3 := hs.nodes
  have n4 := hs.inner
  have hpl : (ptsG g link).length ≤ 2000000 := by unfold ptsG; omega
  have hel : (endsG g link).length ≤ 2000000 := by unfold endsG; omega
  obtain ⟨AN, cN, AS, cS, AO, cO, AI, cI, rfl, rfl, rfl, rfl⟩ := hG.form
  obtain ⟨w0, hw0, hb0, hsz0, bx0⟩ := laid1 w (.cells #[.int .i64 g.roots, .slice AN g.nodes.length cN, .slice AS g.sites.length cS, .int .i64 g.edges, .slice AO g.outer.length cO, .slice AI g.inner.length cI] 31)
  have HX := Lib.hid (keepB bx0)
  have HB0 := Lib.hid hb0
  have HW0 := Lib.hid hw0
  have H1 := Lib.hid (pointsOf_any g _ _ _ _ link w0 hs (HG.out w0 hb0))
  have HE := Lib.hid (idle_add g link)
  obtain ⟨x0, x1, x2, x3, x4, x5⟩ := row6 bx0
  rw [hw0] at x0 x1 x2 x3 x4 x5
  clear hs hG hb0 bx0 hw0 n1 n2 n3 n4
  go_enter Tryz.func125, Tryz.ntmps125
  go_wp2_with fail
  rw [← HW0.out]
  refine H1.out.mono ?_
  rintro e w1 ⟨r, q, rfl, ho, ho2, hb1⟩
  obtain ⟨A1, c1, rfl, _⟩ := owns_form ho
  obtain ⟨A2, c2, rfl, _⟩ := owns_form ho2
  have HZ1 := Lib.hid (HB0.out.trans (hb1.mono HB0.out.size))
  clear x0 x1 x2 x3 x4 x5 ho ho2 hb1
  go_wp2_with fail
  go_ret
  exact ⟨by rw [← HE.out]; rfl, HZ1.out⟩

end Go.Proofs.YtijkdpdmclkmlaaGreatDoor
