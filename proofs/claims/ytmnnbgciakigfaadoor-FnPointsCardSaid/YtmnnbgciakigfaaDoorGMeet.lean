/- Whether two nodes have a link in common; the reference's parts of nodes that share links. -/
import Derived.Test.YtmnnbgciakigfaaDoorProg
import Derived.Test.YtmnnbgciakigfaaDoorGIdle
import Derived.Test.YtmnnbgciakigfaaDoorGPartL
import Derived.Test.YtmnnbgciakigfaaDoorHas
set_option linter.unusedVariables false
namespace Go.Proofs.YtmnnbgciakigfaaDoor
open Go.RowKit Go.Sort

def meetB (g : Gr) (i k : Nat) : Bool := (nodA g i).2.2.any fun l => hasI (nodA g k).2.2 l
theorem meet_sym (g : Gr) (i k : Nat) : meetB g i k = meetB g k i := by
  have h : ∀ i k, meetB g i k = true → meetB g k i = true := fun i k h => by
    unfold meetB at h ⊢
    rw [List.any_eq_true] at h ⊢
    obtain ⟨x, h1, h2⟩ := h
    unfold hasI at h2 ⊢
    exact ⟨x, by simpa using h2, by simpa using h1⟩
  cases h1 : meetB g i k
  · cases h2 : meetB g k i
    · rfl
    · rw [h k i h2] at h1; cases h1
  · exact (h i k h1).symm
theorem meet_no {g : Gr} {i k : Nat} (h : ∀ j, j < (nodA g i).2.2.length → hasI (nodA g k).2.2 ((nodA g i).2.2.getD j 0) = false) : meetB g i k = false := by
  unfold meetB
  rw [List.any_eq_false]
  intro x hx
  obtain ⟨j, hj, e⟩ := List.getElem_of_mem hx
  have := h j hj
  simp only [List.getD, List.getElem?_eq_getElem hj, Option.getD_some, e] at this
  rw [this]; exact Bool.false_ne_true
theorem meet_yes {g : Gr} {i k j : Nat} (hj : j < (nodA g i).2.2.length) (h : hasI (nodA g k).2.2 ((nodA g i).2.2.getD j 0) = true) : meetB g i k = true := by
  unfold meetB
  rw [List.any_eq_true]
  refine ⟨(nodA g i).2.2.getD j 0, ?_, h⟩
  simp only [List.getD, List.getElem?_eq_getElem hj, Option.getD_some]
  exact List.getElem_mem hj
theorem l1Has_q (A : Option Addr) (c : Nat) (xs : List Int) (d : Int) (w : World) (hn : xs.length ≤ 16777216) (hA : Cells w A (ints xs)) :
    Calls Tryd.prog 50 #[.slice A xs.length c, .int .i64 d] w fun e w' => e = .returned (.bool (hasI xs d)) ∧ w' = w :=
  (l1Has_any A c xs d w hn hA).mono fun _ _ ⟨a, b⟩ => ⟨a, b.symm⟩

set_option maxRecDepth 100000 in
set_option maxHeartbeats 4000000 in
theorem l2Meet_any (g : Gr) (nv sv ov iv : Value) (x y : Nat) (w : World) (hs : SmallG g) (hG : RGr w nv sv ov iv g) (hx : x < g.nodes.length) (hy : y < g.nodes.length) :
    Calls Tryd.prog 23 #[.agg #[.int .i64 g.roots, nv, sv, .int .i64 g.edges, ov, iv], .int .i64 x, .int .i64 y] w fun e w' => e = .returned (.bool (meetB g x y)) ∧ Below w.heap.size w w' := by
  have HN := Lib.hid hG.n
  have h1 := hs.nodes
  have hlx : (nodA g x).2.2.length ≤ 1000 := by rw [nodA_get hx]; exact hs.links _ (List.getElem_mem hx)
  have hly : (nodA g y).2.2.length ≤ 1000 := by rw [nodA_get hy]; exact hs.links _ (List.getElem_mem hy)
  obtain ⟨AN, cN, AS, cS, AO, cO, AI, cI, rfl, rfl, rfl, rfl⟩ := hG.form
  obtain ⟨w0, hw0⟩ : ∃ w0, w0 = w.alloc (.cells #[.int .i64 g.roots, .slice AN g.nodes.length cN, .slice AS g.sites.length cS, .int .i64 g.edges, .slice AO g.outer.length cO, .slice AI g.inner.length cI] 30) := ⟨_, rfl⟩
  have hb0 : Below w.heap.size w w0 := by rw [hw0]; exact (Below.refl _ _).alloc (Nat.le_refl _) _
  have bx0 : w0.heap[w.heap.size]? = some (.cells #[.int .i64 g.roots, .slice AN g.nodes.length cN, .slice AS g.sites.length cS, .int .i64 g.edges, .slice AO g.outer.length cO, .slice AI g.inner.length cI] 30) := by rw [hw0]; exact heap_alloc_new _ _
  have hsz0 : w0.heap.size = w.heap.size + 1 := by rw [hw0]; simp
  have HB0 := Lib.hid hb0
  have HX0 := Lib.hid bx0
  have HW0 := Lib.hid hw0
  clear hs hG hb0 bx0 hw0
  go_enter Tryd.func23, Tryd.ntmps23
  go_wp2_with fail
  rw [← HW0.out]
  go_loopw [7] (fun z wr => ∃ k : Nat, k ≤ (nodA g x).2.2.length ∧ z = .int .i64 k ∧ (∀ j, j < k → hasI (nodA g y).2.2 ((nodA g x).2.2.getD j 0) = false) ∧ Below w0.heap.size w0 wr)
    (fun z _ => (nodA g x).2.2.length - (intOf z).toNat)
  case atStart => exact ⟨0, Nat.zero_le _, rfl, fun j hj => by omega, Below.refl _ _⟩
  case round =>
    obtain ⟨k, hk, rfl, hno, hbel⟩ := hrel
    have HNO := Lib.hid hno
    have i1 : wr.cell? ⟨w.heap.size, 1, none⟩ = some (.slice AN g.nodes.length cN) := cell_of_row _ _ _ _ _ _ ((hbel.block _ (by omega)).trans HX0.out)
    have hz := HB0.out.trans (hbel.mono HB0.out.size)
    obtain ⟨b, o, c, AX, d, ev, _, _, k2, kX⟩ := nod_at (HN.out.below RNod_keep hz) hx
    obtain ⟨b', o', c', AY, d', ev', _, _, j2, kY⟩ := nod_at (HN.out.below RNod_keep hz) hy
    rw [← nodA_get hx] at k2 kX
    rw [← nodA_get hy] at j2 kY
    cases ev
    cases ev'
    have b0 : (0 : Int) ≤ (x : Int) := by omega
    have b1 : (x : Int) < (g.nodes.length : Int) := by omega
    have b2 : (0 : Int) ≤ (y : Int) := by omega
    have b3 : (y : Int) < (g.nodes.length : Int) := by omega
    have HZ := Lib.hid hz
    have HBE := Lib.hid hbel
    clear hno hbel hz
    by_cases hkl : k < (nodA g x).2.2.length
    · obtain ⟨bl, ol, eA, kk⟩ := kX.int hkl
      have l0 := kk k hkl
      subst eA
      have v0 : (0 : Int) ≤ (k : Int) := by omega
      have v1 : (k : Int) < ((nodA g x).2.2.length : Int) := by omega
      have HQ := Lib.hid (fun d W (hW : W = wr.drewN d) => l1Has_q AY d' (nodA g y).2.2 ((nodA g x).2.2.getD k 0) W (by omega) (by rw [hW]; exact kY))
      have HH := Lib.hid (fun d => l1Has_q AY d' (nodA g y).2.2 ((nodA g x).2.2.getD k 0) (wr.drewN d) (by omega) kY)
      have HYE := Lib.hid (fun h => meet_yes (g := g) (i := x) (k := y) hkl h)
      have HNX := Lib.hid (show hasI (nodA g y).2.2 ((nodA g x).2.2.getD k 0) = false → ∀ j, j < k + 1 → hasI (nodA g y).2.2 ((nodA g x).2.2.getD j 0) = false from fun h => none_next (p := fun j => hasI (nodA g y).2.2 ((nodA g x).2.2.getD j 0)) HNO.out h)
      clear kk kX kY HQ
      generalize (nodA g x).2.2.getD k 0 = l at *
      cases hh : hasI (nodA g y).2.2 l
      · have HN3 := Lib.hid (HNX.out hh)
        rw [hh] at HH
        go_wp2_with fail
        go_quiet ((go_at_call 50; exact Calls.quiet_of_same (HH.out _)))
        go_wp2_with fail
        go_roundw
        case rel => exact ⟨k + 1, by omega, by go_num, HN3.out, below_drewN' HBE.out _⟩
        case measure => simp [intOf]; omega
      · have HM := Lib.hid (HYE.out hh)
        rw [hh] at HH
        go_wp2_with fail
        go_quiet ((go_at_call 50; exact Calls.quiet_of_same (HH.out _)))
        go_wp2_with fail
        go_ret
        exact ⟨by rw [HM.out]; rfl, below_drewN' HZ.out _⟩
    · obtain rfl : k = (nodA g x).2.2.length := by omega
      have HM := Lib.hid (meet_no (g := g) (i := x) (k := y) HNO.out)
      clear kX kY
      go_wp2_with fail
      go_ret
      exact ⟨by rw [HM.out]; rfl, HZ.out⟩

end Go.Proofs.YtmnnbgciakigfaaDoor
