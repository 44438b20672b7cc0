/- l10Put at a nil slice. -/
import Derived.Test.YtdgnhfhaaghoaaaGreatDoorProg
import Derived.Test.YtdgnhfhaaghoaaaGreatDoorJ16
import Derived.Test.YtdgnhfhaaghoaaaGreatDoorJ3
import Derived.Lib.QuietBelow
set_option linter.unusedSimpArgs false
set_option linter.unusedVariables false
namespace Go.Proofs.YtdgnhfhaaghoaaaGreatDoor
open Go.RowKit Go.Sort

/-- append of a nil slice, as one operation of a region. -/
theorem step_none {P : Program} {Y} {o : Oper} {a : Act} {w : World} {K : Act → World → Prop} {Q : Exit → Act → World → Prop} {E : Prop} {t e : TypeId} {size bytes : Nat} (el : El P t e size bytes) (hgd : o.guard = none) (s x : Operand)
    (ho : o.op = .call { callee := .builtin .append, args := #[s, x], argTypes := #[t, t] })
    (base : Nat) (v : Value) (n c : Nat) (xs : List Value) (hs : a.eval s = v) (hown : w.ownsRow base e size v n xs) (hx : a.eval x = .slice none 0 c)
    (h : K (a.put o.dst v) w) : if Region.wanted o Y = true then Oper.wp P o a w K Q else E := by
  obtain ⟨ht, i, z, hi, hz, hsz, hb, hzs, h0⟩ := el
  rw [if_pos (by simp [Region.wanted, hgd])]
  have hrun := run_append_none_cap (P := P) (w := w) base t o.type e i size ht hi v n c xs hown
  unfold Oper.wp
  simp [execOp, ho, resolve, invoke, builtin, hs, hx, hrun, Result.andThen]
  exact h

set_option maxRecDepth 100000 in
set_option maxHeartbeats 8000000 in
theorem l10PutNil_any (x : I3) (w : World) :
    Calls Tryz.prog 92 #[.slice none 0 0, .agg #[.int .i64 x.1, .int .i64 x.2.1, .int .i64 x.2.2]] w fun e w' => ∃ r, e = .returned r ∧ w'.ownsRow w.heap.size 103 3 r 1 (tri x) ∧ Below w.heap.size w w' := by
  obtain ⟨W0, hW0⟩ : ∃ W0, W0 = w.alloc (.cells #[.int .i64 x.1, .int .i64 x.2.1, .int .i64 x.2.2] 103) := ⟨_, rfl⟩
  have hz0 : Below w.heap.size w W0 := by rw [hW0]; exact (Below.refl _ _).alloc (Nat.le_refl _) _
  have hs0 : W0.heap.size = w.heap.size + 1 := by rw [hW0]; simp
  have bx0 : W0.heap[w.heap.size]? = some (.cells #[.int .i64 x.1, .int .i64 x.2.1, .int .i64 x.2.2] 103) := by rw [hW0]; exact heap_alloc_new _ _
  have HX := Lib.hid (show ∀ W, Below W0.heap.size W0 W → W.cell? ⟨w.heap.size, 0, none⟩ = some (.int .i64 x.1) ∧ W.cell? ⟨w.heap.size, 1, none⟩ = some (.int .i64 x.2.1) ∧ W.cell? ⟨w.heap.size, 2, none⟩ = some (.int .i64 x.2.2) from fun W hW => by
    have := (hW.block _ (by omega)).trans bx0
    exact ⟨cell_of_row _ _ _ _ _ _ this, cell_of_row _ _ _ _ _ _ this, cell_of_row _ _ _ _ _ _ this⟩)
  have HZ0 := Lib.hid hz0
  have HW0 := Lib.hid hW0
  clear bx0 hz0 hW0
  go_enter Tryz.func92, Tryz.ntmps92
  go_wp2_with fail
  rw [← HW0.out]
  go_loopw [5] (fun i wr => i = .int .i64 0 ∧ Below W0.heap.size W0 wr) (fun i _ => 0)
  case atStart => exact ⟨rfl, Below.refl _ _⟩
  case round =>
    obtain ⟨rfl, hbel⟩ := hrel
    have HBE := Lib.hid hbel
    have hsz := hbel.size
    clear hbel
    go_wp2_with fail
    go_quiet (fail)
    have HBQ := Lib.hid (below_drewN' HBE.out nq)
    obtain ⟨W5, hW5⟩ : ∃ W5, W5 = wr.drewN nq := ⟨_, rfl⟩
    rw [← hW5] at HBQ ⊢
    clear hW5
    have hs5' := HBQ.out.size
    have HBW5 := Lib.hid (HZ0.out.trans (HBQ.out.mono HZ0.out.size))
    have hs5 := HBW5.out.size
    go_wp2_with fail
    have HBQ0 := HBQ
    clear HBQ hs5' HBW5 hs5
    go_quiet (fail)
    have HBQ := Lib.hid (below_drewN' HBQ0.out nq)
    obtain ⟨W6, hW6⟩ : ∃ W6, W6 = W5.drewN nq := ⟨_, rfl⟩
    rw [← hW6] at HBQ ⊢
    clear hW6
    have hs5' := HBQ.out.size
    have HBW5 := Lib.hid (HZ0.out.trans (HBQ.out.mono HZ0.out.size))
    have hs5 := HBW5.out.size
    go_wp2_with fail
    obtain ⟨xs, hxs, hxl⟩ : ∃ xs : List I3, xs = [] ∧ xs.length = 0 := ⟨[], rfl, rfl⟩
    obtain ⟨zs, hzs, hzl⟩ : ∃ zs : List I3, zs = [] ∧ zs.length = 0 := ⟨[], rfl, rfl⟩
    have HXS := Lib.hid hxs
    have HZS := Lib.hid hzs
    clear hxs hzs
    refine wp_region_inv (by kernel_rfl) (fun L act W => ∃ (bb bs : Nat) (v1 v2 v3 : Value), act = ⟨#[Value.slice none 0 0, Value.agg #[Value.int IntKind.i64 x.fst, Value.int IntKind.i64 x.snd.fst, Value.int IntKind.i64 x.snd.snd], undef, Value.pointer (some ⟨w.heap.size, 0, none⟩), bsel (L 12) (v3) (Value.slice none 0 0), Value.int IntKind.i64 0, Value.int IntKind.i64 0, Value.slice none 0 0, Value.int IntKind.i64 0, Value.bool false, Value.bool false, undef, undef, undef, undef, undef, undef, Value.bool false, u18, u19, Value.int IntKind.i64 0, Value.slice none 0 0, Value.int IntKind.i64 0, Value.bool false, Value.bool false, undef, undef, undef, undef, undef, undef, Value.bool false, undef, bsel (L 0) (.slice (some ⟨bb, 0, none⟩) 0 0) (undef), bsel (L 1) (.slice none 0 0) (undef), bsel (L 2) (.int .i64 0) (undef), bsel (L 3) (.slice none 0 0) (undef), bsel (L 4) (v1) (undef), bsel (L 5) (.agg #[.int .i64 x.1, .int .i64 x.2.1, .int .i64 x.2.2]) (undef), bsel (L 6) (.slice (some ⟨bs, 0, none⟩) 1 1) (undef), bsel (L 7) (v2) (undef), bsel (L 8) (.slice none 0 0) (undef), bsel (L 9) (.int .i64 0) (undef), bsel (L 10) (.slice none 0 0) (undef), bsel (L 11) (v3) (undef)], []⟩ ∧ (L 12 = true → L 11 = true) ∧ QF W6 xs zs x (L 0) (L 4) (L 6) (L 7) (L 11) bb bs v1 v2 v3 W) ?h0 ?step ?fin
    case h0 => exact ⟨0, 0, .bool false, .bool false, .bool false, rfl, fun h => absurd h Bool.false_ne_true, QF.start _ _ _ _ _⟩
    case step =>
      intro L act W q oo hJ hL ho hd K3 hK3
      obtain ⟨bb, bs, v1, v2, v3, rfl, hI0, hF⟩ := hJ
      match q, ho with
      | 0, ho =>
        simp only [List.getElem?_toArray, List.getElem?_cons_zero, List.getElem?_cons_succ, Option.some.injEq] at ho
        subst ho
        simp [Region.binds] at hd
        rw [hL] at hF
        have HF := Lib.hid hF.nil
        clear hF
        have HQI0 := Lib.hid hI0
        clear hI0
        go_simp
        exact hK3 _ _ ⟨W.heap.size, bs, v1, v2, v3, by first | (simp [upd, bsel]; done) | simp [upd, bsel, hd], by simpa [upd] using HQI0.out, by simpa [upd] using HF.out⟩
      | 1, ho =>
        simp only [List.getElem?_toArray, List.getElem?_cons_zero, List.getElem?_cons_succ, Option.some.injEq] at ho
        subst ho
        simp [Region.binds] at hd
        try simp only [hd, bsel_t]
        have HF := Lib.hid hF
        clear hF
        have HQI0 := Lib.hid hI0
        clear hI0
        go_simp
        exact hK3 _ _ ⟨bb, bs, v1, v2, v3, by first | (simp [upd, bsel]; done) | simp [upd, bsel, hd], by simpa [upd] using HQI0.out, HF.out⟩
      | 2, ho =>
        simp only [List.getElem?_toArray, List.getElem?_cons_zero, List.getElem?_cons_succ, Option.some.injEq] at ho
        subst ho
        simp [Region.binds] at hd
        try simp only [hd, bsel_t]
        have HF := Lib.hid hF
        clear hF
        have HQI0 := Lib.hid hI0
        clear hI0
        go_simp
        exact hK3 _ _ ⟨bb, bs, v1, v2, v3, by first | (simp [upd, bsel]; done) | simp [upd, bsel, hd], by simpa [upd] using HQI0.out, HF.out⟩
      | 3, ho =>
        simp only [List.getElem?_toArray, List.getElem?_cons_zero, List.getElem?_cons_succ, Option.some.injEq] at ho
        subst ho
        simp [Region.binds] at hd
        try simp only [hd, bsel_t]
        have HF := Lib.hid hF
        clear hF
        have HQI0 := Lib.hid hI0
        clear hI0
        go_simp
        exact hK3 _ _ ⟨bb, bs, v1, v2, v3, by simp [upd, bsel, hd], by simpa [upd] using HQI0.out, HF.out⟩
      | 4, ho =>
        simp only [List.getElem?_toArray, List.getElem?_cons_zero, List.getElem?_cons_succ, Option.some.injEq] at ho
        subst ho
        simp [Region.binds] at hd
        have d0 : L 0 = true := by simp [hd]
        rw [d0, hL] at hF
        simp only [hd, bsel_t]
        have HF := Lib.hid hF
        clear hF
        refine step_none el_a3 rfl (.tmp 33) (.tmp 36) rfl W6.heap.size (.slice (some ⟨bb, 0, none⟩) 0 0) 0 0 [] (by rfl) (HF.out.h0 rfl rfl) (by rfl) ?_
        have HF := Lib.hid (HF.out.app1 (v1' := .slice (some ⟨bb, 0, none⟩) 0 0) (by rw [HXS.out]; exact HF.out.h0 rfl rfl) (Kept.refl _ _))
        have HQI0 := Lib.hid hI0
        clear hI0
        go_simp
        exact hK3 _ _ ⟨bb, bs, .slice (some ⟨bb, 0, none⟩) 0 0, v2, v3, by simp [upd, bsel, hd], by simpa [upd] using HQI0.out, by simpa [upd, hd] using HF.out⟩
      | 5, ho =>
        simp only [List.getElem?_toArray, List.getElem?_cons_zero, List.getElem?_cons_succ, Option.some.injEq] at ho
        subst ho
        simp [Region.binds] at hd
        obtain ⟨x0, x1, x2⟩ := HX.out W (HBQ.out.trans (hF.z.mono hs5'))
        try simp only [hd, bsel_t]
        have HF := Lib.hid hF
        clear hF
        have HQI0 := Lib.hid hI0
        clear hI0
        go_simp
        exact hK3 _ _ ⟨bb, bs, v1, v2, v3, by first | (simp [upd, bsel]; done) | simp [upd, bsel, hd], by simpa [upd] using HQI0.out, HF.out⟩
      | 6, ho =>
        simp only [List.getElem?_toArray, List.getElem?_cons_zero, List.getElem?_cons_succ, Option.some.injEq] at ho
        subst ho
        simp [Region.binds] at hd
        rw [hL] at hF
        simp only [hd, bsel_t]
        have HF := Lib.hid hF.one
        clear hF
        have HQI0 := Lib.hid hI0
        clear hI0
        go_simp
        exact hK3 _ _ ⟨bb, W.heap.size, v1, v2, v3, by simp [upd, bsel, hd], by simpa [upd] using HQI0.out, by simpa [upd, hd] using HF.out⟩
      | 7, ho =>
        simp only [List.getElem?_toArray, List.getElem?_cons_zero, List.getElem?_cons_succ, Option.some.injEq] at ho
        subst ho
        simp [Region.binds] at hd
        obtain ⟨d4, d6⟩ : L 4 = true ∧ L 6 = true := by simp [hd]
        rw [d4, d6, hL] at hF
        simp only [hd, bsel_t]
        have HF := Lib.hid hF
        clear hF
        refine step_app el_a3 rfl (.tmp 37) (.tmp 39) rfl W6.heap.size v1 xs.length (xs.flatMap tri) (by rfl) (HF.out.h4 rfl rfl) ⟨bs, 0, none⟩ 1 1 (tri x) (by rfl) rfl (fun j u hj => (HF.out.h6 rfl rfl).cells (g := bs) rfl j u hj) (by intro u hu; simp [tri] at hu; rcases hu with rfl | rfl | rfl <;> rfl) (by unfold maxLen; omega) (by omega) HF.out.z.size ?_
        intro v2' W' ho hk
        have HF := Lib.hid (HF.out.app2 ho hk)
        clear ho hk
        have HQI0 := Lib.hid hI0
        clear hI0
        go_simp
        exact hK3 _ _ ⟨bb, bs, v1, v2', v3, by simp [upd, bsel, hd], by simpa [upd] using HQI0.out, by simpa [upd, hd] using HF.out⟩
      | 8, ho =>
        simp only [List.getElem?_toArray, List.getElem?_cons_zero, List.getElem?_cons_succ, Option.some.injEq] at ho
        subst ho
        simp [Region.binds] at hd
        try simp only [hd, bsel_t]
        have HF := Lib.hid hF
        clear hF
        have HQI0 := Lib.hid hI0
        clear hI0
        go_simp
        exact hK3 _ _ ⟨bb, bs, v1, v2, v3, by first | (simp [upd, bsel]; done) | simp [upd, bsel, hd], by simpa [upd] using HQI0.out, HF.out⟩
      | 9, ho =>
        simp only [List.getElem?_toArray, List.getElem?_cons_zero, List.getElem?_cons_succ, Option.some.injEq] at ho
        subst ho
        simp [Region.binds] at hd
        try simp only [hd, bsel_t]
        have HF := Lib.hid hF
        clear hF
        have HQI0 := Lib.hid hI0
        clear hI0
        go_simp
        exact hK3 _ _ ⟨bb, bs, v1, v2, v3, by first | (simp [upd, bsel]; done) | simp [upd, bsel, hd], by simpa [upd] using HQI0.out, HF.out⟩
      | 10, ho =>
        simp only [List.getElem?_toArray, List.getElem?_cons_zero, List.getElem?_cons_succ, Option.some.injEq] at ho
        subst ho
        simp [Region.binds] at hd
        try simp only [hd, bsel_t]
        have HF := Lib.hid hF
        clear hF
        have HQI0 := Lib.hid hI0
        clear hI0
        go_simp
        exact hK3 _ _ ⟨bb, bs, v1, v2, v3, by simp [upd, bsel, hd], by simpa [upd] using HQI0.out, HF.out⟩
      | 11, ho =>
        simp only [List.getElem?_toArray, List.getElem?_cons_zero, List.getElem?_cons_succ, Option.some.injEq] at ho
        subst ho
        simp [Region.binds] at hd
        have hz0 : L 12 = false := by
          cases e : L 12
          · rfl
          · exact absurd (hI0 e) (by simp [hL])
        have d7 : L 7 = true := by simp [hd]
        rw [d7, hL] at hF
        simp only [hd, bsel_t]
        have HF := Lib.hid hF
        clear hF
        refine step_none el_a3 rfl (.tmp 40) (.tmp 43) rfl W6.heap.size v2 (xs.length + 1) 0 (xs.flatMap tri ++ tri x) (by rfl) (HF.out.h7 rfl rfl) (by rfl) ?_
        have HF := Lib.hid (HF.out.app3 (v3' := v2) (by rw [HZS.out]; simpa using HF.out.h7 rfl rfl) (Kept.refl _ _))
        have HQI0 := Lib.hid hI0
        clear hI0
        go_simp
        exact hK3 _ _ ⟨bb, bs, v1, v2, v2, by simp [upd, bsel, hd, hz0], by simp [upd], by simpa [upd, hd] using HF.out⟩
      | 12, ho =>
        simp only [List.getElem?_toArray, List.getElem?_cons_zero, List.getElem?_cons_succ, Option.some.injEq] at ho
        subst ho
        simp [Region.binds] at hd
        try simp only [hd, bsel_t]
        have HF := Lib.hid hF
        clear hF
        have HQI0 := Lib.hid hI0
        clear hI0
        go_simp
        exact hK3 _ _ ⟨bb, bs, v1, v2, v3, by simp [upd, bsel, hd], by simp [upd, hd], HF.out⟩
      | q + 13, ho => simp at ho
    case fin =>
      intro L act W hJ hfin
      obtain ⟨bb, bs, v1, v2, v3, rfl, hI0, hF⟩ := hJ
      have l0 : L 0 = true := by
        cases e : L 0
        · have x := hfin 0 _ rfl e
          simp [Region.binds] at x
        · rfl
      have l1 : L 1 = true := by
        cases e : L 1
        · have x := hfin 1 _ rfl e
          simp [Region.binds, l0] at x
        · rfl
      have l2 : L 2 = true := by
        cases e : L 2
        · have x := hfin 2 _ rfl e
          simp [Region.binds, l0, l1] at x
        · rfl
      have l3 : L 3 = true := by
        cases e : L 3
        · have x := hfin 3 _ rfl e
          simp [Region.binds, l0, l1, l2] at x
        · rfl
      have l4 : L 4 = true := by
        cases e : L 4
        · have x := hfin 4 _ rfl e
          simp [Region.binds, l0, l1, l2, l3] at x
        · rfl
      have l5 : L 5 = true := by
        cases e : L 5
        · have x := hfin 5 _ rfl e
          simp [Region.binds, l0, l1, l2, l3, l4] at x
        · rfl
      have l6 : L 6 = true := by
        cases e : L 6
        · have x := hfin 6 _ rfl e
          simp [Region.binds, l0, l1, l2, l3, l4, l5] at x
        · rfl
      have l7 : L 7 = true := by
        cases e : L 7
        · have x := hfin 7 _ rfl e
          simp [Region.binds, l0, l1, l2, l3, l4, l5, l6] at x
        · rfl
      have l8 : L 8 = true := by
        cases e : L 8
        · have x := hfin 8 _ rfl e
          simp [Region.binds, l0, l1, l2, l3, l4, l5, l6, l7] at x
        · rfl
      have l9 : L 9 = true := by
        cases e : L 9
        · have x := hfin 9 _ rfl e
          simp [Region.binds, l0, l1, l2, l3, l4, l5, l6, l7, l8] at x
        · rfl
      have l10 : L 10 = true := by
        cases e : L 10
        · have x := hfin 10 _ rfl e
          simp [Region.binds, l0, l1, l2, l3, l4, l5, l6, l7, l8, l9] at x
        · rfl
      have l11 : L 11 = true := by
        cases e : L 11
        · have x := hfin 11 _ rfl e
          simp [Region.binds, l0, l1, l2, l3, l4, l5, l6, l7, l8, l9, l10] at x
        · rfl
      have l12 : L 12 = true := by
        cases e : L 12
        · have x := hfin 12 _ rfl e
          simp [Region.binds, l0, l1, l2, l3, l4, l5, l6, l7, l8, l9, l10, l11] at x
        · rfl
      simp only [l0, l1, l2, l3, l4, l5, l6, l7, l8, l9, l10, l11, l12, bsel_t]
      have h11 := hF.h11 l11
      have HZ := Lib.hid (HBW5.out.trans (hF.z.mono hs5))
      rw [HXS.out, HZS.out] at h11
      obtain ⟨A3, c3, rfl, h11⟩ := owns_form h11
      have HR := Lib.hid (owns_mono h11 hs5)
      clear hF hfin hI0 h11 l0 l1 l2 l3 l4 l5 l6 l7 l8 l9 l10 l11 l12
      go_wp2_with fail
      go_ret
      exact ⟨_, rfl, by simpa using HR.out, HZ.out⟩

end Go.Proofs.YtdgnhfhaaghoaaaGreatDoor
