/- Labelled systems: whether a number is a state, and IsSimulated of the reference: walked. -/
import Derived.Test.YtdgnhfhaaghoaaaGreatDoorProg
import Derived.Test.YtdgnhfhaaghoaaaGreatDoorJ41
import Derived.Test.YtdgnhfhaaghoaaaGreatDoorJ26
set_option linter.unusedVariables false
namespace Go.Proofs.YtdgnhfhaaghoaaaGreatDoor
open Go.RowKit

def stB (l : Lab) (s : Int) : Bool := inB s 0 ((l.shows.length : Int) - 1)
theorem stB_true {l : Lab} {s : Int} (h : stB l s = true) : ∃ i : Nat, s = (i : Int) ∧ i < l.shows.length := by
  have := inB_true h
  exact ⟨s.toNat, by omega, by omega⟩

set_option maxHeartbeats 400000 in
theorem isStateL_any (v : Value) (l : Lab) (s : Int) (w : World) (hs : SmallLab l) (hv : RLab w v l) :
    Calls Tryz.prog 54 #[v, .int .i64 s] w fun e w' => e = .returned (.bool (stB l s)) ∧ Below w.heap.size w w' := by
  have hb1 : ∀ o, Below w.heap.size w (w.alloc o) := fun o => (Below.refl _ _).alloc (Nat.le_refl _) o
  have H2 := Lib.hid (fun n lo hi W => within_any n lo hi W)
  obtain ⟨sv, tv, rfl, hsv, htv⟩ := hv
  obtain ⟨A, c, vs, rfl, hm, _, _, _⟩ := hsv
  have hs1 := hs.1
  have HB1 := Lib.hid hb1
  clear hb1 htv
  go_enter Tryz.func54, Tryz.ntmps54
  go_wp2_with fail
  refine (H2.out _ _ _ _).mono ?_
  rintro e w2 ⟨rfl, rfl⟩
  go_wp2_with fail
  go_ret
  exact ⟨rfl, HB1.out _⟩

def okST (l : Lab) (s t : Int) : Bool := (goodLab l && stB l s) && stB l t
/-- What IsSimulated tells: b is whether s is simulated by t. -/
def SimSaid (l : Lab) (s t : Int) (b : Bool) : Prop := (okST l s t = false ∧ b = false) ∨ (okST l s t = true ∧ ∃ r, SimR l.shows.length l.steps (initI l) r ∧ SimStable l.steps r ∧ b = r s t)
theorem simSaid_one {l : Lab} {s t : Int} {b c : Bool} (hb : SimSaid l s t b) (hc : SimSaid l s t c) : b = c := by
  rcases hb with ⟨h1, rfl⟩ | ⟨h1, r, r1, r2, rfl⟩
  · rcases hc with ⟨_, rfl⟩ | ⟨h2, _⟩
    · rfl
    · rw [h1] at h2; cases h2
  · rcases hc with ⟨h2, rfl⟩ | ⟨_, q, q1, q2, rfl⟩
    · rw [h1] at h2; cases h2
    · exact sim_unique r1 r2 q1 q2 s t

set_option maxRecDepth 100000 in
set_option maxHeartbeats 4000000 in
theorem specIsSimulated_any (v : Value) (l : Lab) (s t : Int) (w : World) (hs : SmallLab l) (hv : RLab w v l) :
    Calls Tryz.prog 52 #[v, .int .i64 s, .int .i64 t] w fun e w' => ∃ b, e = .returned (.tuple #[.bool b, .bool (okST l s t)]) ∧ SimSaid l s t b ∧ Below w.heap.size w w' := by
  have HV := Lib.hid (show ∀ W, Below w.heap.size w W → RLab W v l from fun W hb => hv.below hb)
  have HS := Lib.hid hs
  have hs1 := hs.1
  have hal : ∀ o, Below w.heap.size w (w.alloc o) := fun o => (Below.refl _ _).alloc (Nat.le_refl _) o
  have H := Lib.hid (fun W s (hW : Below w.heap.size w W) => l11State_any v l s W HS.out (HV.out W hW))
  have HSIM := Lib.hid (fun W (hg : goodLab l = true) (hW : Below w.heap.size w W) => l11Simulated_any v l W HS.out hg (HV.out W hW))
  obtain ⟨sv, tv, rfl, hsv, htv⟩ := hv
  obtain ⟨A, c, vs, rfl, hm, _, _, _⟩ := hsv
  obtain ⟨D, d, rfl, _, _⟩ := htv
  have HB := Lib.hid (hal (.cells #[.slice A l.shows.length c, .slice D l.steps.length d] 27))
  have HN := Lib.hid (show okST l s t = false → SimSaid l s t false from fun h => .inl ⟨h, rfl⟩)
  clear hal hs
  cases h1 : (goodLab l && inB s 0 ((l.shows.length : Int) - 1))
  · have hok : okST l s t = false := by unfold okST stB; rw [h1]; rfl
    have HOK := Lib.hid hok
    rw [hok]
    have H1 := Lib.hid (H.out _ s HB.out)
    rw [h1] at H1
    go_enter Tryz.func52, Tryz.ntmps52
    go_wp2_with fail
    refine H1.out.mono ?_
    rintro e w1 ⟨rfl, hb1⟩
    have HZ := Lib.hid (HB.out.trans (hb1.mono HB.out.size))
    clear hb1
    go_wp2_with fail
    go_ret2
    exact ⟨false, rfl, HN.out HOK.out, HZ.out⟩
  · have H1 := Lib.hid (H.out _ s HB.out)
    rw [h1] at H1
    have hg : goodLab l = true := by rw [Bool.and_eq_true] at h1; exact h1.1
    have hst : stB l s = true := by rw [Bool.and_eq_true] at h1; exact h1.2
    cases h2 : stB l t
    · have hok : okST l s t = false := by unfold okST; rw [h2, Bool.and_false]
      have HOK := Lib.hid hok
      rw [hok]
      have h2b : inB t 0 ((l.shows.length : Int) - 1) = false := h2
      have h2' : (goodLab l && inB t 0 ((l.shows.length : Int) - 1)) = false := by rw [h2b, Bool.and_false]
      have H2 := Lib.hid (fun W (hW : Below w.heap.size w W) => H.out W t hW)
      rw [h2'] at H2
      clear h2' h2b
      go_enter Tryz.func52, Tryz.ntmps52
      go_wp2_with fail
      refine H1.out.mono ?_
      rintro e w1 ⟨rfl, hb1⟩
      obtain ⟨bx, _⟩ := one_box hb1
      have x0 : w1.cell? ⟨w.heap.size, 0, none⟩ = some (.slice A l.shows.length c) := cell_of_row _ _ _ _ _ _ bx
      have x1 : w1.cell? ⟨w.heap.size, 1, none⟩ = some (.slice D l.steps.length d) := cell_of_row _ _ _ _ _ _ bx
      have HZ := Lib.hid (HB.out.trans (hb1.mono HB.out.size))
      clear hb1 bx
      go_wp2_with fail
      refine (H2.out _ HZ.out).mono ?_
      rintro e w2 ⟨rfl, hb2⟩
      have HZ2 := Lib.hid (HZ.out.trans (hb2.mono HZ.out.size))
      clear hb2 x0 x1
      go_wp2_with fail
      go_ret2
      exact ⟨false, rfl, HN.out HOK.out, HZ2.out⟩
    · have hok : okST l s t = true := by unfold okST; rw [h2, hst, hg]; rfl
      have h2b : inB t 0 ((l.shows.length : Int) - 1) = true := h2
      have h2' : (goodLab l && inB t 0 ((l.shows.length : Int) - 1)) = true := by rw [h2b, hg]; rfl
      have H2 := Lib.hid (fun W (hW : Below w.heap.size w W) => H.out W t hW)
      rw [h2'] at H2
      obtain ⟨i, rfl, hi⟩ := stB_true hst
      obtain ⟨k, rfl, hk⟩ := stB_true h2
      have HOK := Lib.hid hok
      have HSG := Lib.hid (fun W (hW : Below w.heap.size w W) => HSIM.out W hg hW)
      rw [hok]
      have b0 : (0 : Int) ≤ (i : Int) := by omega
      have b1 : (i : Int) < (l.shows.length : Int) := by omega
      have b2 : (0 : Int) ≤ (k : Int) := by omega
      have b3 : (k : Int) < (l.shows.length : Int) := by omega
      clear h2' h2b h2 hst hok h1 hg HSIM H
      go_enter Tryz.func52, Tryz.ntmps52
      go_wp2_with fail
      refine H1.out.mono ?_
      rintro e w1 ⟨rfl, hb1⟩
      obtain ⟨bx, _⟩ := one_box hb1
      have x0 : w1.cell? ⟨w.heap.size, 0, none⟩ = some (.slice A l.shows.length c) := cell_of_row _ _ _ _ _ _ bx
      have x1 : w1.cell? ⟨w.heap.size, 1, none⟩ = some (.slice D l.steps.length d) := cell_of_row _ _ _ _ _ _ bx
      have HZ := Lib.hid (HB.out.trans (hb1.mono HB.out.size))
      clear hb1 bx
      go_wp2_with fail
      refine (H2.out _ HZ.out).mono ?_
      rintro e w2 ⟨rfl, hb2⟩
      have HZ2 := Lib.hid (HZ.out.trans (hb2.mono HZ.out.size))
      have x0 := cell_below hb2 x0 (lt_of_cell x0)
      have x1 := cell_below hb2 x1 (lt_of_cell x1)
      clear hb2
      go_wp2_with fail
      refine (HSG.out _ HZ2.out).mono ?_
      rintro e w3 ⟨g, c', R, C, f, rfl, ht, hsim, hst, hb3⟩
      have o1 := ht.outer i hi
      obtain ⟨n1, _⟩ := ht.inner i k hi hk
      have HR := Lib.hid (show SimSaid l i k (f i k) from .inr ⟨HOK.out, _, hsim, hst, (relF_at hi hk).symm⟩)
      have HZ3 := Lib.hid (HZ2.out.trans (hb3.mono HZ2.out.size))
      clear ht hsim hst hb3 x0 x1
      go_wp2_with fail
      go_ret2
      exact ⟨_, rfl, HR.out, HZ3.out⟩

end Go.Proofs.YtdgnhfhaaghoaaaGreatDoor
