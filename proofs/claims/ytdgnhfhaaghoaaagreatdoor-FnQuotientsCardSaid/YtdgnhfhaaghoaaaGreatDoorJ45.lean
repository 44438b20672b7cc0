/- Two labelled systems drawn: the draw of UnionOf. -/
import Derived.Test.YtdgnhfhaaghoaaaGreatDoorProg
import Derived.Test.YtdgnhfhaaghoaaaGreatDoorJ37
import Derived.Test.YtdgnhfhaaghoaaaGreatDoorJ44
import Derived.Test.YtdgnhfhaaghoaaaGreatDoorJ3
set_option linter.unusedSimpArgs false
set_option linter.unusedVariables false
namespace Go.Proofs.YtdgnhfhaaghoaaaGreatDoor
open Go.RowKit

theorem results_cell_cell {P : Program} {fn : Func} {p q : Tmp} {ty ty2 : TypeId} (h : fn.results = #[.cell p ty, .cell q ty2]) (tmps : Array Value) (w : World) (g g2 : Nat) (t t2 : TypeId) (cs cs2 : Array Value) (fr fr2 : Nat × Nat) (d d2 : TypeDesc)
    (hp : tmps.getD p undef = .pointer (some ⟨g, 0, none⟩)) (hg : w.heap[g]? = some (.cells cs t fr)) (hq : tmps.getD q undef = .pointer (some ⟨g2, 0, none⟩)) (hg2 : w.heap[g2]? = some (.cells cs2 t2 fr2))
    (hu : P.underlying ty = some d) (hd : (match d with | .struct _ | .array _ _ => true | _ => false) = true) (hi : (P.info? ty).map (·.size) = some cs.size)
    (hu2 : P.underlying ty2 = some d2) (hd2 : (match d2 with | .struct _ | .array _ _ => true | _ => false) = true) (hi2 : (P.info? ty2).map (·.size) = some cs2.size) :
    (results fn tmps).run P w = .ok (.tuple #[.agg cs, .agg cs2]) w := by
  have hp' : tmps[p]?.getD undef = .pointer (some ⟨g, 0, none⟩) := by simpa using hp
  have hq' : tmps[q]?.getD undef = .pointer (some ⟨g2, 0, none⟩) := by simpa using hq
  simp [results, h, hp', hq', asAddr, run_loadVar_row w g t ty cs fr d hg hu hd hi, run_loadVar_row w g2 t2 ty2 cs2 fr2 d2 hg2 hu2 hd2 hi2]

/-- While the two systems are put into their places: the second one drawn (b2), the stores (b3, b4). -/
structure SU (w0 wB : World) (p P P2 Q : Nat) (A : Option Addr) (bs : List Int) (c : Nat) (U T V X : Value) (b2 b3 b4 : Bool) (W : World) : Prop where
  o3 : b3 = true → b2 = true
  o4 : b4 = true → b2 = true
  k : Kept (fun q => q = p ∨ q = P ∨ q = P2) w0 W
  cur : b2 = false → Cur W p A bs c 2000
  box0 : b3 = false → W.heap[P]? = some (.cells #[.slice none 0 0, .slice none 0 0] 27)
  box1 : b3 = true → W.heap[P]? = some (.cells #[U, T] 27)
  bx20 : b4 = false → W.heap[P2]? = some (.cells #[.slice none 0 0, .slice none 0 0] 27)
  bx21 : b4 = true → W.heap[P2]? = some (.cells #[V, X] 27)
  lbx : W.heap[Q]? = some (.cells #[U, T] 27)
  d1 : DLab wB W U T
  d2 : b2 = true → DLab wB W V X
section
variable {w0 wB W W' : World} {p P P2 Q c : Nat} {A : Option Addr} {bs : List Int} {U T V X V' X' : Value} {b2 b3 b4 : Bool}
theorem SU.start (hC : Cur w0 p A bs c 2000) (h0 : w0.heap[P]? = some (.cells #[.slice none 0 0, .slice none 0 0] 27)) (h2 : w0.heap[P2]? = some (.cells #[.slice none 0 0, .slice none 0 0] 27)) (h1 : w0.heap[Q]? = some (.cells #[U, T] 27)) (hd : DLab wB w0 U T) : SU w0 wB p P P2 Q A bs c U T V X false false false w0.drew :=
  { o3 := fun h => (nomatch h), o4 := fun h => (nomatch h), k := (Kept.refl _ _).below' ((Below.refl _ _).drew), cur := fun _ => hC.below ((Below.refl _ _).drew), box0 := fun _ => h0, box1 := fun h => (nomatch h), bx20 := fun _ => h2, bx21 := fun h => (nomatch h), lbx := h1, d1 := hd.kept (S := fun _ => False) ((Kept.refl _ _).below' ((Below.refl _ _).drew)) (fun q h => h.elim), d2 := fun h => (nomatch h) }
theorem SU.q (h : SU w0 wB p P P2 Q A bs c U T V X false b3 b4 W) : b3 = false ∧ b4 = false := by
  refine ⟨?_, ?_⟩
  · cases b3; rfl; exact absurd (h.o3 rfl) (by simp)
  · cases b4; rfl; exact absurd (h.o4 rfl) (by simp)
theorem SU.draw (h : SU w0 wB p P P2 Q A bs c U T V X false b3 b4 W) (hP : P ≠ p) (hP2 : P2 ≠ p) (hQ : Q ≠ p) (hpB : p < wB.heap.size) (hk : Kept (fun q => q = p) W W') (hd : DLab W W' V' X') (hB : wB.heap.size ≤ W.heap.size) : SU w0 wB p P P2 Q A bs c U T V' X' true b3 b4 W' := by
  obtain ⟨rfl, rfl⟩ := h.q
  exact { o3 := fun h => (nomatch h), o4 := fun h => (nomatch h), k := h.k.trans (hk.mono fun q hq => Or.inl hq), cur := fun h => (nomatch h), box0 := fun _ => (hk.block P (Array.getElem?_eq_some_iff.1 (h.box0 rfl)).1 hP).trans (h.box0 rfl), box1 := fun h => (nomatch h), bx20 := fun _ => (hk.block P2 (Array.getElem?_eq_some_iff.1 (h.bx20 rfl)).1 hP2).trans (h.bx20 rfl), bx21 := fun h => (nomatch h), lbx := (hk.block Q (Array.getElem?_eq_some_iff.1 h.lbx).1 hQ).trans h.lbx, d1 := h.d1.kept hk (fun q hq => by omega), d2 := fun _ => hd.low hB }
theorem SU.store3 (h : SU w0 wB p P P2 Q A bs c U T V X true false b4 W) (hQ : Q ≠ P) (h2 : P2 ≠ P) (hPB : P < wB.heap.size) : SU w0 wB p P P2 Q A bs c U T V X true true b4 ((W.setCell ⟨P, 0, none⟩ U).setCell ⟨P, 1, none⟩ T) := by
  obtain ⟨h1, hk⟩ := box_put U T (h.box0 rfl)
  exact { o3 := fun _ => rfl, o4 := fun _ => rfl, k := h.k.trans (hk.mono fun q hq => Or.inr (Or.inl hq)), cur := fun h => (nomatch h), box0 := fun h => (nomatch h), box1 := fun _ => h1, bx20 := fun e => (hk.block P2 (Array.getElem?_eq_some_iff.1 (h.bx20 e)).1 h2).trans (h.bx20 e), bx21 := fun e => (hk.block P2 (Array.getElem?_eq_some_iff.1 (h.bx21 e)).1 h2).trans (h.bx21 e), lbx := (hk.block Q (Array.getElem?_eq_some_iff.1 h.lbx).1 hQ).trans h.lbx, d1 := h.d1.kept hk (fun q hq => by omega), d2 := fun _ => (h.d2 rfl).kept hk (fun q hq => by omega) }
theorem SU.store4 (h : SU w0 wB p P P2 Q A bs c U T V X true b3 false W) (hQ : Q ≠ P2) (h2 : P ≠ P2) (hPB : P2 < wB.heap.size) : SU w0 wB p P P2 Q A bs c U T V X true b3 true ((W.setCell ⟨P2, 0, none⟩ V).setCell ⟨P2, 1, none⟩ X) := by
  obtain ⟨h1, hk⟩ := box_put V X (h.bx20 rfl)
  exact { o3 := fun _ => rfl, o4 := fun _ => rfl, k := h.k.trans (hk.mono fun q hq => Or.inr (Or.inr hq)), cur := fun h => (nomatch h), box0 := fun e => (hk.block P (Array.getElem?_eq_some_iff.1 (h.box0 e)).1 h2).trans (h.box0 e), box1 := fun e => (hk.block P (Array.getElem?_eq_some_iff.1 (h.box1 e)).1 h2).trans (h.box1 e), bx20 := fun h => (nomatch h), bx21 := fun _ => h1, lbx := (hk.block Q (Array.getElem?_eq_some_iff.1 h.lbx).1 hQ).trans h.lbx, d1 := h.d1.kept hk (fun q hq => by omega), d2 := fun _ => (h.d2 rfl).kept hk (fun q hq => by omega) }
end

set_option maxRecDepth 100000 in
set_option maxHeartbeats 16000000 in
theorem drawUnionOf_any (A : Option Addr) (bs : List Int) (c : Nat) (w : World) (hA : Cells w A (u8s bs)) (hrng : ∀ x ∈ bs, 0 ≤ x ∧ x < 256) (hlen : bs.length ≤ 1000000000000) :
    Calls Tryz.prog 38 #[.slice A bs.length c] w fun e w' => ∃ u t v x, e = .returned (.tuple #[.agg #[u, t], .agg #[v, x]]) ∧ DLab w w' u t ∧ DLab w w' v x ∧ Below w.heap.size w w' := by
  obtain ⟨W0, hW0⟩ : ∃ W0, W0 = ((w.alloc (.cells #[.slice none 0 0, .slice none 0 0] 27)).alloc (.cells #[.slice none 0 0, .slice none 0 0] 27)).alloc (.cells #[.slice A bs.length c, .int .i64 0, .int .u64 0] 94) := ⟨_, rfl⟩
  have hb0 : Below w.heap.size w W0 := by rw [hW0]; exact (((Below.refl _ _).alloc (Nat.le_refl _) _).alloc (by simp) _).alloc (by simp; omega) _
  have hs0 : W0.heap.size = w.heap.size + 1 + 1 + 1 := by rw [hW0]; simp
  have bx0 : W0.heap[w.heap.size]? = some (.cells #[.slice none 0 0, .slice none 0 0] 27) := by
    rw [hW0]
    exact (heap_alloc_old _ _ (by simp; omega)).trans ((heap_alloc_old _ _ (by simp)).trans (heap_alloc_new _ _))
  have bx1 : W0.heap[w.heap.size + 1]? = some (.cells #[.slice none 0 0, .slice none 0 0] 27) := by
    rw [hW0]
    have h := heap_alloc_new (w.alloc (.cells #[.slice none 0 0, .slice none 0 0] 27)) (.cells #[.slice none 0 0, .slice none 0 0] 27)
    rw [World.size_alloc] at h
    exact (heap_alloc_old _ _ (by simp)).trans h
  have hC : Cur W0 (w.heap.size + 1 + 1) A bs c 0 := by
    have h := Cur.start (c := c) (hA.below (((Below.refl w.heap.size w).alloc (Nat.le_refl _) (.cells #[.slice none 0 0, .slice none 0 0] 27)).alloc (by simp) (.cells #[.slice none 0 0, .slice none 0 0] 27))) hrng hlen
    rw [World.size_alloc, World.size_alloc] at h
    rw [hW0]; exact h
  have HC := Lib.hid hC
  have HB0 := Lib.hid hb0
  have HX0 := Lib.hid bx0
  have HX1 := Lib.hid bx1
  have HW0 := Lib.hid hW0
  clear hC hb0 bx0 bx1 hW0 hA
  go_enter Tryz.func38, Tryz.ntmps38
  go_wp2_with fail
  rw [← HW0.out]
  (with_reducible refine (labelled_any (w.heap.size + 1 + 1) A bs c 0 W0 HC.out (by omega)).mono ?_)
  rintro e w1 ⟨u, t, rfl, hD, hC1, hK1⟩
  obtain ⟨AU, nU, cU, AT, nT, cT, rfl, rfl⟩ := hD.form
  have hs1 := hK1.size
  have hbl := heap_alloc_new w1 (.cells #[.slice AU nU cU, .slice AT nT cT] 27)
  have hbel := (Below.refl w1.heap.size w1).alloc (Nat.le_refl _) (.cells #[.slice AU nU cU, .slice AT nT cT] 27)
  obtain ⟨w2, hw2⟩ : ∃ w2, w2 = w1.alloc (.cells #[.slice AU nU cU, .slice AT nT cT] 27) := ⟨_, rfl⟩
  have hs2 : w2.heap.size = w1.heap.size + 1 := by rw [hw2]; simp
  rw [← hw2] at hbl hbel
  have HK2 := Lib.hid ((hK1.below' hbel))
  have g0 := (HK2.out.block w.heap.size (by omega) (by omega)).trans HX0.out
  have g1 := (HK2.out.block (w.heap.size + 1) (by omega) (by omega)).trans HX1.out
  have hd2 : DLab W0 w2 (.slice AU nU cU) (.slice AT nT cT) := hD.kept (S := fun _ => False) (Kept.of_below hbel _) (fun q h => h.elim)
  have HSU := Lib.hid (SU.start (V := .bool false) (X := .bool false) ((hC1.mono (show 0 + 1000 ≤ 2000 by omega)).below hbel) g0 g1 hbl hd2)
  have HW2 := Lib.hid hw2
  clear hD hC1 hK1 hbl hbel g0 g1 hd2 hw2
  go_upto_region 3 with fail
  rw [← HW2.out]
  refine wp_region_inv (by kernel_rfl) (fun L act W => ∃ (v x : Value), act = ⟨#[Value.slice A bs.length c, undef, Value.pointer (some ⟨w.heap.size, 0, none⟩), Value.pointer (some ⟨w.heap.size + 1, 0, none⟩), Value.pointer (some ⟨w.heap.size + 1 + 1, 0, none⟩), Value.pointer (some ⟨w1.heap.size, 0, none⟩), Value.slice A bs.length c, Value.agg #[Value.slice A bs.length c, Value.int IntKind.i64 0, Value.int IntKind.u64 0], Value.pointer (some ⟨w.heap.size + 1 + 1, 0, none⟩), Value.pointer (some ⟨w.heap.size + 1 + 1, 0, none⟩), Value.agg #[Value.slice AU nU cU, Value.slice AT nT cT], bsel (L 0) (.agg #[.slice AU nU cU, .slice AT nT cT]) (undef), bsel (L 1) (.pointer (some ⟨w.heap.size + 1 + 1, 0, none⟩)) (undef), bsel (L 2) (.agg #[v, x]) (undef)], []⟩ ∧ SU w2 W0 (w.heap.size + 1 + 1) w.heap.size (w.heap.size + 1) w1.heap.size A bs c (.slice AU nU cU) (.slice AT nT cT) v x (L 2) (L 3) (L 4) W) ?h0 ?step ?fin
  case h0 => exact ⟨.bool false, .bool false, rfl, HSU.out⟩
  case step =>
    intro L act W q oo hJ hL ho hd K3 hK3
    obtain ⟨v, x, rfl, hF⟩ := hJ
    match q, ho with
    | 0, ho =>
      simp only [List.getElem?_toArray, List.getElem?_cons_zero, List.getElem?_cons_succ, Option.some.injEq] at ho
      subst ho
      simp [Region.binds] at hd
      have s0 := cell_of_row W _ 0 _ _ _ hF.lbx
      have s1 := cell_of_row W _ 1 _ _ _ hF.lbx
      try simp only [hd, bsel_t]
      have HF := Lib.hid hF
      clear hF
      go_simp
      exact hK3 _ _ ⟨v, x, by first | (simp [upd, bsel]; done) | simp [upd, bsel, hd], HF.out⟩
    | 1, ho =>
      simp only [List.getElem?_toArray, List.getElem?_cons_zero, List.getElem?_cons_succ, Option.some.injEq] at ho
      subst ho
      simp [Region.binds] at hd
      try simp only [hd, bsel_t]
      have HF := Lib.hid hF
      clear hF
      go_simp
      exact hK3 _ _ ⟨v, x, by first | (simp [upd, bsel]; done) | simp [upd, bsel, hd], HF.out⟩
    | 2, ho =>
      simp only [List.getElem?_toArray, List.getElem?_cons_zero, List.getElem?_cons_succ, Option.some.injEq] at ho
      subst ho
      simp [Region.binds] at hd
      rw [hL] at hF
      simp only [hd, bsel_t]
      have HF := Lib.hid hF
      clear hF
      go_simp
      go_at_call 82
      (with_reducible refine (labelled_any (w.heap.size + 1 + 1) A bs c 2000 W (HF.out.cur rfl) (by omega)).mono ?_)
      rintro e W' ⟨v', x', rfl, hD', -, hk'⟩
      have HF := Lib.hid (HF.out.draw (by omega) (by omega) (by omega) (by omega) hk' hD' (by have := HF.out.k.size; omega))
      clear hD' hk'
      go_simp
      exact hK3 _ _ ⟨v', x', by simp [upd, bsel, hd], by simpa [upd, hd] using HF.out⟩
    | 3, ho =>
      simp only [List.getElem?_toArray, List.getElem?_cons_zero, List.getElem?_cons_succ, Option.some.injEq] at ho
      subst ho
      simp [Region.binds] at hd
      rw [hL] at hF
      have hb0 := hF.box0 rfl
      have s0 := cell_of_row W _ 0 _ _ _ hb0
      have s1 := cell_of_row W _ 1 _ _ _ hb0
      have f0 := frozen_of_row W _ 0 _ _ hb0
      have f1 := frozen_of_row W _ 1 _ _ hb0
      clear hb0
      have d2 : L 2 = true := by simp [hd]
      rw [d2] at hF
      simp only [hd, bsel_t]
      have HF := Lib.hid (hF.store3 (by omega) (by omega) (by omega))
      clear hF
      go_simp
      exact hK3 _ _ ⟨v, x, by simp [upd, bsel, hd], by simpa [upd, d2] using HF.out⟩
    | 4, ho =>
      simp only [List.getElem?_toArray, List.getElem?_cons_zero, List.getElem?_cons_succ, Option.some.injEq] at ho
      subst ho
      simp [Region.binds] at hd
      rw [hL] at hF
      have d2 : L 2 = true := by simp [hd]
      rw [d2] at hF
      obtain ⟨A3, n3, c3, A4, n4, c4, rfl, rfl⟩ := (hF.d2 rfl).form
      have hb0 := hF.bx20 rfl
      have s0 := cell_of_row W _ 0 _ _ _ hb0
      have s1 := cell_of_row W _ 1 _ _ _ hb0
      have f0 := frozen_of_row W _ 0 _ _ hb0
      have f1 := frozen_of_row W _ 1 _ _ hb0
      clear hb0
      simp only [hd, bsel_t]
      have HF := Lib.hid (hF.store4 (by omega) (by omega) (by omega))
      clear hF
      go_simp
      exact hK3 _ _ ⟨.slice A3 n3 c3, .slice A4 n4 c4, by simp [upd, bsel, hd], by simpa [upd, d2] using HF.out⟩
    | q + 5, ho => simp at ho
  case fin =>
    intro L act W hJ hfin
    obtain ⟨v, x, rfl, hF⟩ := hJ
    have l0 : L 0 = true := by
      cases e : L 0
      · have x := hfin 0 _ rfl e
        simp [Region.binds] at x
      · rfl
    have l1 : L 1 = true := by
      cases e : L 1
      · have x := hfin 1 _ rfl e
        simp [Region.binds, l0] at x
      · rfl
    have l2 : L 2 = true := by
      cases e : L 2
      · have x := hfin 2 _ rfl e
        simp [Region.binds, l0, l1] at x
      · rfl
    have l3 : L 3 = true := by
      cases e : L 3
      · have x := hfin 3 _ rfl e
        simp [Region.binds, l0, l1, l2] at x
      · rfl
    have l4 : L 4 = true := by
      cases e : L 4
      · have x := hfin 4 _ rfl e
        simp [Region.binds, l0, l1, l2, l3] at x
      · rfl
    simp only [l0, l1, l2, l3, l4, bsel_t]
    have hend := hF.box1 l3
    have hend2 := hF.bx21 l4
    have hk := hF.k
    have hd1 := hF.d1
    have hd2 := hF.d2 l2
    have HE := Lib.hid hend
    have HE2 := Lib.hid hend2
    have HK9 := Lib.hid hk
    clear hend hend2 hk hF hfin l0 l1 l2 l3 l4
    go_wp2_with fail
    (try simp only [Exit.inBlock, Exit.then])
    refine bodyPost_ret (results_cell_cell rfl _ _ w.heap.size (w.heap.size + 1) _ _ _ _ _ _ _ _ rfl HE.out rfl HE2.out Tryz.underlying27 rfl (by kernel_rfl) Tryz.underlying27 rfl (by kernel_rfl)) rfl ?_
    exact ⟨_, _, _, _, rfl, hd1.low (by omega), hd2.low (by omega), HB0.out.trans (((HK2.out.mono (fun q hq => Or.inl hq)).trans HK9.out).below (B := w.heap.size) (fun q hq => by omega) (by omega))⟩

end Go.Proofs.YtdgnhfhaaghoaaaGreatDoor
