/- Links, parents, names of bigraphs: the two packages' tests walked. -/
import Derived.Test.YtmnnbgciakigfaaDoorProg
import Derived.Test.YtmnnbgciakigfaaDoorGrB
set_option linter.unusedVariables false
namespace Go.Proofs.YtmnnbgciakigfaaDoor
open Go.RowKit

theorem inB_neg {p r : Int} (hp : p < 0) : inB (-1 - p) 0 (r - 1) = decide (-r ≤ p) := by
  unfold inB
  rw [decide_eq_true (show (0 : Int) ≤ -1 - p by omega), Bool.true_and]
  by_cases h : -r ≤ p
  · rw [decide_eq_true h, decide_eq_true (by omega)]
  · rw [decide_eq_false h, decide_eq_false (by omega)]

set_option maxHeartbeats 1000000 in
theorem isLink_any (g : Gr) (nv sv ov iv : Value) (x : Int) (w : World) (hs : SmallG g) (hG : RGr w nv sv ov iv g) :
    Calls Tryd.prog 28 #[.agg #[.int .i64 g.roots, nv, sv, .int .i64 g.edges, ov, iv], .int .i64 x] w fun e w' => e = .returned (.bool (linkB g x)) ∧ Below w.heap.size w w' := by
  obtain ⟨AN, cN, AS, cS, AO, cO, AI, cI, rfl, rfl, rfl, rfl⟩ := hG.form
  have h1 := hs.edges
  have h2 := hs.outer
  have HB := Lib.hid (fun o => (Below.refl w.heap.size w).alloc (Nat.le_refl _) o)
  unfold linkB
  clear hG hs
  go_enter Tryd.func28, Tryd.ntmps28
  go_wp2_with ((with_reducible refine (within_any ..).mono ?_); rintro e w' ⟨rfl, rfl⟩)
  go_ret
  exact ⟨rfl, HB.out _⟩

set_option maxHeartbeats 1000000 in
theorem l2Link_any (g : Gr) (nv sv ov iv : Value) (x : Int) (w : World) (hs : SmallG g) (hG : RGr w nv sv ov iv g) :
    Calls Tryd.prog 30 #[.agg #[.int .i64 g.roots, nv, sv, .int .i64 g.edges, ov, iv], .int .i64 x] w fun e w' => e = .returned (.bool (linkB g x)) ∧ Below w.heap.size w w' := by
  obtain ⟨AN, cN, AS, cS, AO, cO, AI, cI, rfl, rfl, rfl, rfl⟩ := hG.form
  have h1 := hs.edges
  have h2 := hs.outer
  have HB := Lib.hid (fun o => (Below.refl w.heap.size w).alloc (Nat.le_refl _) o)
  unfold linkB
  clear hG hs
  go_enter Tryd.func30, Tryd.ntmps30
  go_wp2_with ((with_reducible refine (l1In_any ..).mono ?_); rintro e w' ⟨rfl, rfl⟩)
  go_ret
  exact ⟨rfl, HB.out _⟩

/-- The controls of the first nodes are there. -/
def CtlOk (sig : List Ct) (g : Gr) (below : Nat) : Prop := ∀ j, j < below → inB (nodA g j).1 0 ((sig.length : Int) - 1) = true

theorem nodA_get {g : Gr} {k : Nat} (h : k < g.nodes.length) : nodA g k = g.nodes[k] := by simp [nodA, List.getD, h]
theorem ctA_get {sig : List Ct} {k : Nat} (h : k < sig.length) : ctA sig k = sig[k] := by simp [ctA, List.getD, h]
theorem wiA_get {g : Gr} {k : Nat} (h : k < g.inner.length) : wiA g k = g.inner[k] := by simp [wiA, List.getD, h]

set_option maxHeartbeats 2000000 in
theorem isParent_any (sig : List Ct) (g : Gr) (nv sv ov iv gv : Value) (p : Int) (below : Nat) (w : World) (hs : SmallG g) (hS : RSl RCt 3 w gv sig) (hsl : sig.length ≤ 1000) (hG : RGr w nv sv ov iv g) (hb : below ≤ g.nodes.length) (hc : CtlOk sig g below) :
    Calls Tryd.prog 38 #[.agg #[.int .i64 g.roots, nv, sv, .int .i64 g.edges, ov, iv], gv, .int .i64 p, .int .i64 below] w fun e w' => e = .returned (.bool (underB sig g p below)) ∧ Below w.heap.size w w' := by
  have hal : ∀ o, Below w.heap.size w (w.alloc o) := fun o => (Below.refl w.heap.size w).alloc (Nat.le_refl _) o
  have HB := Lib.hid hal
  have h1 := hs.roots
  have h2 := hs.nodes
  unfold underB
  by_cases hp : p < 0
  · rw [if_pos hp]
    obtain ⟨AN, cN, AS, cS, AO, cO, AI, cI, rfl, rfl, rfl, rfl⟩ := hG.form
    obtain ⟨AG, cG, rfl, _⟩ := hS.form
    clear hS hG hs hal hc
    go_enter Tryd.func38, Tryd.ntmps38
    go_wp2_with fail
    go_ret
    exact ⟨rfl, HB.out _⟩
  · rw [if_neg hp]
    by_cases hlt : p < (below : Int)
    · obtain ⟨k, rfl⟩ := Int.eq_ofNat_of_zero_le (show 0 ≤ p by omega)
      have hkn : k < g.nodes.length := by omega
      have hck := hc k (by omega)
      rw [nodA_get hkn] at hck
      obtain ⟨b, o, c, A, d, eN, k0, _, _, _⟩ := nod_at (hG.n.below RNod_keep (hal (.cells #[.int .i64 g.roots, nv, sv, .int .i64 g.edges, ov, iv] 30))) hkn
      obtain ⟨q0, q1⟩ := inB_true hck
      obtain ⟨m, hm⟩ := Int.eq_ofNat_of_zero_le q0
      have hml : m < sig.length := by omega
      obtain ⟨b', o', c', eS, _, _, s2⟩ := ct_at (hS.below RCt_keep (hal (.cells #[.int .i64 g.roots, nv, sv, .int .i64 g.edges, ov, iv] 30))) hml
      have HE := Lib.hid (show kindA sig (nodA g ((k : Nat) : Int).toNat).1 = sig[m].2.2 from by
        unfold kindA
        rw [Int.toNat_natCast, nodA_get hkn, hm, Int.toNat_natCast, ctA_get hml])
      rw [hm] at k0
      rw [HE.out, decide_eq_true hlt, Bool.true_and]
      obtain ⟨AN, cN, AS, cS, AO, cO, AI, cI, _, rfl, rfl, rfl⟩ := hG.form
      subst eN
      subst eS
      clear hS hG hs hal hc hck q0 q1 hm HE
      generalize sig[m].2.2 = z at *
      cases hz : (z == 2)
      · have hz' : (z != 2) = true := by rw [bne, hz]; rfl
        go_enter Tryd.func38, Tryd.ntmps38
        go_wp2_with fail
        go_ret
        exact ⟨rfl, HB.out _⟩
      · have hz' : (z != 2) = false := by rw [bne, hz]; rfl
        go_enter Tryd.func38, Tryd.ntmps38
        go_wp2_with fail
        go_ret
        exact ⟨rfl, HB.out _⟩
    · rw [decide_eq_false hlt, Bool.false_and]
      obtain ⟨AN, cN, AS, cS, AO, cO, AI, cI, rfl, rfl, rfl, rfl⟩ := hG.form
      obtain ⟨AG, cG, rfl, _⟩ := hS.form
      clear hS hG hs hal hc
      go_enter Tryd.func38, Tryd.ntmps38
      go_wp2_with fail
      go_ret
      exact ⟨rfl, HB.out _⟩

set_option maxHeartbeats 2000000 in
theorem l2Under_any (sig : List Ct) (g : Gr) (nv sv ov iv gv : Value) (p : Int) (below : Nat) (w : World) (hs : SmallG g) (hS : RSl RCt 3 w gv sig) (hsl : sig.length ≤ 1000) (hG : RGr w nv sv ov iv g) (hp0 : -9223372036854775808 ≤ p) (hb : below ≤ g.nodes.length) (hc : CtlOk sig g below) :
    Calls Tryd.prog 49 #[gv, .agg #[.int .i64 g.roots, nv, sv, .int .i64 g.edges, ov, iv], .int .i64 p, .int .i64 below] w fun e w' => e = .returned (.bool (underB sig g p below)) ∧ Below w.heap.size w w' := by
  have hal : ∀ o, Below w.heap.size w (w.alloc o) := fun o => (Below.refl w.heap.size w).alloc (Nat.le_refl _) o
  have HB := Lib.hid hal
  have h1 := hs.roots
  have h2 := hs.nodes
  unfold underB
  by_cases hp : p < 0
  · rw [if_pos hp]
    obtain ⟨AN, cN, AS, cS, AO, cO, AI, cI, rfl, rfl, rfl, rfl⟩ := hG.form
    obtain ⟨AG, cG, rfl, _⟩ := hS.form
    clear hS hG hs hal hc
    go_enter Tryd.func49, Tryd.ntmps49
    go_wp2_with ((with_reducible refine (l1In_any ..).mono ?_); rintro e w' ⟨rfl, rfl⟩)
    go_ret
    exact ⟨by rw [← inB_neg hp]; rfl, HB.out _⟩
  · rw [if_neg hp]
    by_cases hlt : p < (below : Int)
    · obtain ⟨k, rfl⟩ := Int.eq_ofNat_of_zero_le (show 0 ≤ p by omega)
      have hkn : k < g.nodes.length := by omega
      have hck := hc k (by omega)
      rw [nodA_get hkn] at hck
      obtain ⟨b, o, c, A, d, eN, k0, _, _, _⟩ := nod_at (hG.n.below RNod_keep (hal (.cells #[.int .i64 g.roots, nv, sv, .int .i64 g.edges, ov, iv] 30))) hkn
      obtain ⟨q0, q1⟩ := inB_true hck
      obtain ⟨m, hm⟩ := Int.eq_ofNat_of_zero_le q0
      have hml : m < sig.length := by omega
      obtain ⟨b', o', c', eS, _, _, s2⟩ := ct_at (hS.below RCt_keep (hal (.cells #[.int .i64 g.roots, nv, sv, .int .i64 g.edges, ov, iv] 30))) hml
      have HE := Lib.hid (show kindA sig (nodA g ((k : Nat) : Int).toNat).1 = sig[m].2.2 from by
        unfold kindA
        rw [Int.toNat_natCast, nodA_get hkn, hm, Int.toNat_natCast, ctA_get hml])
      rw [hm] at k0
      rw [HE.out, decide_eq_true hlt, Bool.true_and]
      obtain ⟨AN, cN, AS, cS, AO, cO, AI, cI, _, rfl, rfl, rfl⟩ := hG.form
      subst eN
      subst eS
      clear hS hG hs hal hc hck q0 q1 hm HE
      generalize sig[m].2.2 = z at *
      cases hz : (z == 2)
      · have hz' : (z != 2) = true := by rw [bne, hz]; rfl
        go_enter Tryd.func49, Tryd.ntmps49
        go_wp2_with fail
        go_ret
        exact ⟨rfl, HB.out _⟩
      · have hz' : (z != 2) = false := by rw [bne, hz]; rfl
        go_enter Tryd.func49, Tryd.ntmps49
        go_wp2_with fail
        go_ret
        exact ⟨rfl, HB.out _⟩
    · rw [decide_eq_false hlt, Bool.false_and]
      obtain ⟨AN, cN, AS, cS, AO, cO, AI, cI, rfl, rfl, rfl, rfl⟩ := hG.form
      obtain ⟨AG, cG, rfl, _⟩ := hS.form
      clear hS hG hs hal hc
      go_enter Tryd.func49, Tryd.ntmps49
      go_wp2_with fail
      go_ret
      exact ⟨rfl, HB.out _⟩

end Go.Proofs.YtmnnbgciakigfaaDoor
