/- Three numbers put to their place in an ascending list, once: the reference's l10Put walked. -/
import Derived.Test.YtdgnhfhaaghoaaaGreatDoorProg
import Derived.Test.YtdgnhfhaaghoaaaGreatDoorJ16
import Derived.Lib.QuietBelow
set_option linter.unusedSimpArgs false
set_option linter.unusedVariables false
namespace Go.Proofs.YtdgnhfhaaghoaaaGreatDoor
open Go.RowKit Go.Sort

set_option maxRecDepth 100000 in
set_option maxHeartbeats 8000000 in
theorem l10PutG_any (b c : Nat) (l : List I3) (x : I3) (w : World) (hn : l.length ≤ 1000000) (hc : l.length ≤ c) (hA : Cells w (some ⟨b, 0, none⟩) (l.flatMap tri)) :
    Calls Tryz.prog 92 #[.slice (some ⟨b, 0, none⟩) l.length c, .agg #[.int .i64 x.1, .int .i64 x.2.1, .int .i64 x.2.2]] w fun e w' => ∃ r, e = .returned r ∧ ((r = .slice (some ⟨b, 0, none⟩) l.length c ∧ putG l x = l) ∨ w'.ownsRow w.heap.size 103 3 r (putG l x).length ((putG l x).flatMap tri)) ∧ Below w.heap.size w w' := by
  have HA := Lib.hid (show ∀ W, Below w.heap.size w W → Cells W (some ⟨b, 0, none⟩) (l.flatMap tri) from fun W hb => hA.below hb)
  have HP := Lib.hid (fun k h1 h2 h3 => putG_at (x := x) (l := l) (k := k) h1 h2 h3)
  obtain ⟨W0, hW0⟩ : ∃ W0, W0 = w.alloc (.cells #[.int .i64 x.1, .int .i64 x.2.1, .int .i64 x.2.2] 103) := ⟨_, rfl⟩
  have hz0 : Below w.heap.size w W0 := by rw [hW0]; exact (Below.refl _ _).alloc (Nat.le_refl _) _
  have hs0 : W0.heap.size = w.heap.size + 1 := by rw [hW0]; simp
  have bx0 : W0.heap[w.heap.size]? = some (.cells #[.int .i64 x.1, .int .i64 x.2.1, .int .i64 x.2.2] 103) := by rw [hW0]; exact heap_alloc_new _ _
  have HX := Lib.hid (show ∀ W, Below W0.heap.size W0 W → W.cell? ⟨w.heap.size, 0, none⟩ = some (.int .i64 x.1) ∧ W.cell? ⟨w.heap.size, 1, none⟩ = some (.int .i64 x.2.1) ∧ W.cell? ⟨w.heap.size, 2, none⟩ = some (.int .i64 x.2.2) from fun W hW => by
    have := (hW.block _ (by omega)).trans bx0
    exact ⟨cell_of_row _ _ _ _ _ _ this, cell_of_row _ _ _ _ _ _ this, cell_of_row _ _ _ _ _ _ this⟩)
  have HZ0 := Lib.hid hz0
  have HW0 := Lib.hid hW0
  clear hA bx0 hz0 hW0
  go_enter Tryz.func92, Tryz.ntmps92
  go_wp2_with fail
  rw [← HW0.out]
  go_loopw [5] (fun i wr => ∃ k : Nat, k ≤ l.length ∧ i = .int .i64 k ∧ (∀ j, j < k → ltT (l.getD j (0, 0, 0)) x = true) ∧ Below W0.heap.size W0 wr) (fun i _ => l.length - (intOf i).toNat)
  case atStart => exact ⟨0, Nat.zero_le _, rfl, fun j hj => by omega, Below.refl _ _⟩
  case round =>
    obtain ⟨k, hk, rfl, hall, hbel⟩ := hrel
    have HALL := Lib.hid hall
    have HBE := Lib.hid hbel
    have hsz := hbel.size
    have hbw : Below w.heap.size w wr := HZ0.out.trans (hbel.mono HZ0.out.size)
    have HBW := Lib.hid hbw
    have hsw := hbw.size
    obtain ⟨x0, x1, x2⟩ := HX.out wr hbel
    clear hall hbel
    by_cases hlt : k < l.length
    · obtain ⟨b', o', c', e, h0, h1, h2⟩ := (show RA3 wr (.slice (some ⟨b, 0, none⟩) l.length c) l from ⟨_, c, rfl, by unfold maxLen; omega, HA.out wr hbw⟩).at_ (List.getElem?_eq_getElem hlt)
      cases e
      rw [Nat.zero_add] at h0 h1 h2
      have hgd : l.getD k (0, 0, 0) = l[k] := by simp [List.getD, hlt]
      have b0 : (0 : Int) ≤ (k : Int) := by omega
      have b1 : (k : Int) < (l.length : Int) := by omega
      have HC := fun d os => Calls.regrown_of (l10Before_any l[k] x (grow (redrawn wr d) os))
      rw [lt3_T] at HC
      cases hx : ltT l[k] x
      · rw [hx] at HC
        have HC := Lib.hid HC
        have hput := HP.out k HALL.out (by omega) (fun _ => by rw [hgd]; exact hx)
        rw [hgd] at hput
        have g0 := cell_regrown h0
        have g1 := cell_regrown h1
        have g2 := cell_regrown h2
        have y0 := cell_regrown x0
        have y1 := cell_regrown x1
        have y2 := cell_regrown x2
        have HPUT := Lib.hid hput
        clear hx hgd hbw hput
        generalize l[k] = t at *
        go_wp2_with fail
        refine wp_region_quiet_below (by kernel_rfl) (by kernel_rfl) ?_
        repeat (quiet_step (first | exact HC.out _ _))
        refine wpQuiet_nil ?_
        intro _ hw'
        obtain ⟨⟨dq, osq⟩, hw''⟩ := hw'
        subst hw''
        have hb := below_regrown wr dq osq
        have f0 := g0 dq osq
        have f1 := g1 dq osq
        have f2 := g2 dq osq
        have v0 := y0 dq osq
        have v1 := y1 dq osq
        have v2 := y2 dq osq
        clear g0 g1 g2 y0 y1 y2 h0 h1 h2 x0 x1 x2
        generalize grow (redrawn wr dq) osq = W2 at *
        have hb2 := HBE.out.trans (hb.mono hsz)
        have HB2 := Lib.hid hb2
        have HBW2 := Lib.hid (HZ0.out.trans (hb2.mono HZ0.out.size))
        have hs2 := HBW2.out.size
        clear hb hb2
        have EQ := Lib.hid (eqT3 t.1 t.2.1 t.2.2 x.1 x.2.1 x.2.2)
        cases he : (t.1 == x.1 && t.2.1 == x.2.1 && t.2.2 == x.2.2)
        · have hne : ¬ (k < l.length ∧ t = x) := fun h => by rw [h.2] at he; simp at he
          have EQ2 := EQ.out
          rw [he] at EQ2
          have HPUT := Lib.hid (HPUT.out.trans (if_neg hne))
          clear he hne
          go_wp2_with fail
          go_quiet (fail)
          have HBQ := Lib.hid (below_drewN' HB2.out nq)
          obtain ⟨W5, hW5⟩ : ∃ W5, W5 = W2.drewN nq := ⟨_, rfl⟩
          rw [← hW5] at HBQ ⊢
          clear hW5 f0 f1 f2 v0 v1 v2 EQ2
          have HBW5 := Lib.hid (HZ0.out.trans (HBQ.out.mono HZ0.out.size))
          have hs5 := HBW5.out.size
          have hs5' := HBQ.out.size
          have b2 : (k : Int) ≤ (c : Int) := by omega
          have b3 : (k : Int) ≤ (l.length : Int) := by omega
          have hkc : ¬ c = k := by omega
          have hkd : ¬ k = c := by omega
          have hke : ((k : Int) == (c : Int)) = false := by rw [beq_eq_false_iff_ne]; omega
          go_wp2_with fail
          obtain ⟨xs, hxs, hxl⟩ : ∃ xs, xs = l.take k ∧ xs.length = k := ⟨_, rfl, by rw [List.length_take]; omega⟩
          obtain ⟨zs, hzs, hzl⟩ : ∃ zs, zs = l.drop k ∧ zs.length = l.length - k := ⟨_, rfl, List.length_drop⟩
          have HCX := Lib.hid (show ∀ W, Below w.heap.size w W → ∀ j u, (xs.flatMap tri)[j]? = some u → W.cell? ((⟨b, 0, none⟩ : Addr).add j) = some u from fun W hW => by rw [hxs]; exact cellsT_take (HA.out W hW) k)
          have HCZ := Lib.hid (show ∀ W, Below w.heap.size w W → ∀ j u, (zs.flatMap tri)[j]? = some u → W.cell? ((⟨b, k * 3, none⟩ : Addr).add j) = some u from fun W hW => by rw [hzs]; exact cellsT_drop (HA.out W hW) k)
          have HPUT := Lib.hid (show putG l x = xs ++ x :: zs from by rw [HPUT.out, hxs, hzs])
          clear hxs hzs
          refine wp_region_inv (by kernel_rfl) (fun L act W => ∃ (bb bs : Nat) (v1 v2 v3 : Value), act = ⟨#[Value.slice (some ⟨b, 0, none⟩) l.length c, Value.agg #[Value.int IntKind.i64 x.fst, Value.int IntKind.i64 x.snd.fst, Value.int IntKind.i64 x.snd.snd], undef, Value.pointer (some ⟨w.heap.size, 0, none⟩), bsel (L 12) (v3) (Value.slice none 0 0), Value.int IntKind.i64 (k : Int), Value.int IntKind.i64 (k : Int), Value.slice (some ⟨b, 0, none⟩) l.length c, Value.int IntKind.i64 (l.length : Int), Value.bool true, Value.bool true, Value.slice (some ⟨b, 0, none⟩) l.length c, Value.int IntKind.i64 (k : Int), Value.pointer (some ⟨b, k * 3, none⟩), Value.agg #[Value.int IntKind.i64 t.fst, Value.int IntKind.i64 t.snd.fst, Value.int IntKind.i64 t.snd.snd], Value.agg #[Value.int IntKind.i64 x.fst, Value.int IntKind.i64 x.snd.fst, Value.int IntKind.i64 x.snd.snd], Value.bool false, Value.bool false, u18, u19, Value.int IntKind.i64 (k : Int), Value.slice (some ⟨b, 0, none⟩) l.length c, Value.int IntKind.i64 (l.length : Int), Value.bool true, Value.bool true, Value.slice (some ⟨b, 0, none⟩) l.length c, Value.int IntKind.i64 (k : Int), Value.pointer (some ⟨b, k * 3, none⟩), Value.agg #[Value.int IntKind.i64 t.fst, Value.int IntKind.i64 t.snd.fst, Value.int IntKind.i64 t.snd.snd], Value.agg #[Value.int IntKind.i64 x.fst, Value.int IntKind.i64 x.snd.fst, Value.int IntKind.i64 x.snd.snd], Value.bool false, Value.bool false, undef, bsel (L 0) (.slice (some ⟨bb, 0, none⟩) 0 0) (undef), bsel (L 1) (.slice (some ⟨b, 0, none⟩) l.length c) (undef), bsel (L 2) (.int .i64 (k : Int)) (undef), bsel (L 3) (.slice (some ⟨b, 0, none⟩) (k) (c)) (undef), bsel (L 4) (v1) (undef), bsel (L 5) (.agg #[.int .i64 x.1, .int .i64 x.2.1, .int .i64 x.2.2]) (undef), bsel (L 6) (.slice (some ⟨bs, 0, none⟩) 1 1) (undef), bsel (L 7) (v2) (undef), bsel (L 8) (.slice (some ⟨b, 0, none⟩) l.length c) (undef), bsel (L 9) (.int .i64 (k : Int)) (undef), bsel (L 10) (.slice (some ⟨b, k * 3, none⟩) (l.length - k) (c - k)) (undef), bsel (L 11) (v3) (undef)], []⟩ ∧ (L 12 = true → L 11 = true) ∧ QF W5 xs zs x (L 0) (L 4) (L 6) (L 7) (L 11) bb bs v1 v2 v3 W) ?h0 ?step ?fin
          case h0 => exact ⟨0, 0, .bool false, .bool false, .bool false, rfl, fun h => absurd h Bool.false_ne_true, QF.start _ _ _ _ _⟩
          case step =>
            intro L act W q oo hJ hL ho hd K3 hK3
            obtain ⟨bb, bs, v1, v2, v3, rfl, hI0, hF⟩ := hJ
            match q, ho with
            | 0, ho =>
              simp only [List.getElem?_toArray, List.getElem?_cons_zero, List.getElem?_cons_succ, Option.some.injEq] at ho
              subst ho
              simp [Region.binds] at hd
              rw [hL] at hF
              have HF := Lib.hid hF.nil
              clear hF
              go_simp
              exact hK3 _ _ ⟨W.heap.size, bs, v1, v2, v3, by simp [upd, bsel], by simpa [upd] using hI0, by simpa [upd] using HF.out⟩
            | 1, ho =>
              simp only [List.getElem?_toArray, List.getElem?_cons_zero, List.getElem?_cons_succ, Option.some.injEq] at ho
              subst ho
              simp [Region.binds] at hd
              try simp only [hd, bsel_t]
              have HF := Lib.hid hF
              clear hF
              go_simp
              exact hK3 _ _ ⟨bb, bs, v1, v2, v3, by simp [upd, bsel], by simpa [upd] using hI0, HF.out⟩
            | 2, ho =>
              simp only [List.getElem?_toArray, List.getElem?_cons_zero, List.getElem?_cons_succ, Option.some.injEq] at ho
              subst ho
              simp [Region.binds] at hd
              try simp only [hd, bsel_t]
              have HF := Lib.hid hF
              clear hF
              go_simp
              exact hK3 _ _ ⟨bb, bs, v1, v2, v3, by simp [upd, bsel], by simpa [upd] using hI0, HF.out⟩
            | 3, ho =>
              simp only [List.getElem?_toArray, List.getElem?_cons_zero, List.getElem?_cons_succ, Option.some.injEq] at ho
              subst ho
              simp [Region.binds] at hd
              try simp only [hd, bsel_t]
              have HF := Lib.hid hF
              clear hF
              go_simp
              exact hK3 _ _ ⟨bb, bs, v1, v2, v3, by simp [upd, bsel, hd], by simpa [upd] using hI0, HF.out⟩
            | 4, ho =>
              simp only [List.getElem?_toArray, List.getElem?_cons_zero, List.getElem?_cons_succ, Option.some.injEq] at ho
              subst ho
              simp [Region.binds] at hd
              have d0 : L 0 = true := by simp [hd]
              rw [d0, hL] at hF
              simp only [hd, bsel_t]
              have HF := Lib.hid hF
              clear hF
              refine step_app el_a3 rfl (.tmp 33) (.tmp 36) rfl W5.heap.size (.slice (some ⟨bb, 0, none⟩) 0 0) 0 [] (by rfl) (HF.out.h0 rfl rfl) ⟨b, 0, none⟩ (k) (c) (xs.flatMap tri) (by rfl) (by rw [triT_len, hxl]) (HCX.out W (HBW5.out.trans (HF.out.z.mono hs5))) (triT_one _) (by unfold maxLen; omega) (by omega) HF.out.z.size ?_
              intro v1' W' ho hk
              have HF := Lib.hid (HF.out.app1 (by rw [hxl]; exact ho) hk)
              clear ho hk
              go_simp
              exact hK3 _ _ ⟨bb, bs, v1', v2, v3, by simp [upd, bsel, hd], by simpa [upd] using hI0, by simpa [upd, hd] using HF.out⟩
            | 5, ho =>
              simp only [List.getElem?_toArray, List.getElem?_cons_zero, List.getElem?_cons_succ, Option.some.injEq] at ho
              subst ho
              simp [Region.binds] at hd
              obtain ⟨x0, x1, x2⟩ := HX.out W (HBQ.out.trans (hF.z.mono hs5'))
              try simp only [hd, bsel_t]
              have HF := Lib.hid hF
              clear hF
              go_simp
              exact hK3 _ _ ⟨bb, bs, v1, v2, v3, by simp [upd, bsel], by simpa [upd] using hI0, HF.out⟩
            | 6, ho =>
              simp only [List.getElem?_toArray, List.getElem?_cons_zero, List.getElem?_cons_succ, Option.some.injEq] at ho
              subst ho
              simp [Region.binds] at hd
              rw [hL] at hF
              simp only [hd, bsel_t]
              have HF := Lib.hid hF.one
              clear hF
              go_simp
              exact hK3 _ _ ⟨bb, W.heap.size, v1, v2, v3, by simp [upd, bsel, hd], by simpa [upd] using hI0, by simpa [upd, hd] using HF.out⟩
            | 7, ho =>
              simp only [List.getElem?_toArray, List.getElem?_cons_zero, List.getElem?_cons_succ, Option.some.injEq] at ho
              subst ho
              simp [Region.binds] at hd
              obtain ⟨d4, d6⟩ : L 4 = true ∧ L 6 = true := by simp [hd]
              rw [d4, d6, hL] at hF
              simp only [hd, bsel_t]
              have HF := Lib.hid hF
              clear hF
              refine step_app el_a3 rfl (.tmp 37) (.tmp 39) rfl W5.heap.size v1 xs.length (xs.flatMap tri) (by rfl) (HF.out.h4 rfl rfl) ⟨bs, 0, none⟩ 1 1 (tri x) (by rfl) rfl (fun j u hj => (HF.out.h6 rfl rfl).cells (g := bs) rfl j u hj) (by intro u hu; simp [tri] at hu; rcases hu with rfl | rfl | rfl <;> rfl) (by unfold maxLen; omega) (by omega) HF.out.z.size ?_
              intro v2' W' ho hk
              have HF := Lib.hid (HF.out.app2 ho hk)
              clear ho hk
              go_simp
              exact hK3 _ _ ⟨bb, bs, v1, v2', v3, by simp [upd, bsel, hd], by simpa [upd] using hI0, by simpa [upd, hd] using HF.out⟩
            | 8, ho =>
              simp only [List.getElem?_toArray, List.getElem?_cons_zero, List.getElem?_cons_succ, Option.some.injEq] at ho
              subst ho
              simp [Region.binds] at hd
              try simp only [hd, bsel_t]
              have HF := Lib.hid hF
              clear hF
              go_simp
              exact hK3 _ _ ⟨bb, bs, v1, v2, v3, by simp [upd, bsel], by simpa [upd] using hI0, HF.out⟩
            | 9, ho =>
              simp only [List.getElem?_toArray, List.getElem?_cons_zero, List.getElem?_cons_succ, Option.some.injEq] at ho
              subst ho
              simp [Region.binds] at hd
              try simp only [hd, bsel_t]
              have HF := Lib.hid hF
              clear hF
              go_simp
              exact hK3 _ _ ⟨bb, bs, v1, v2, v3, by simp [upd, bsel], by simpa [upd] using hI0, HF.out⟩
            | 10, ho =>
              simp only [List.getElem?_toArray, List.getElem?_cons_zero, List.getElem?_cons_succ, Option.some.injEq] at ho
              subst ho
              simp [Region.binds] at hd
              try simp only [hd, bsel_t]
              have HF := Lib.hid hF
              clear hF
              go_simp
              exact hK3 _ _ ⟨bb, bs, v1, v2, v3, by simp [upd, bsel, hd], by simpa [upd] using hI0, HF.out⟩
            | 11, ho =>
              simp only [List.getElem?_toArray, List.getElem?_cons_zero, List.getElem?_cons_succ, Option.some.injEq] at ho
              subst ho
              simp [Region.binds] at hd
              have hz0 : L 12 = false := by
                cases e : L 12
                · rfl
                · exact absurd (hI0 e) (by simp [hL])
              have d7 : L 7 = true := by simp [hd]
              rw [d7, hL] at hF
              simp only [hd, bsel_t]
              have HF := Lib.hid hF
              clear hF
              refine step_app el_a3 rfl (.tmp 40) (.tmp 43) rfl W5.heap.size v2 (xs.length + 1) (xs.flatMap tri ++ tri x) (by rfl) (HF.out.h7 rfl rfl) ⟨b, k * 3, none⟩ (l.length - k) (c - k) (zs.flatMap tri) (by rfl) (by rw [triT_len, hzl]) (HCZ.out W (HBW5.out.trans (HF.out.z.mono hs5))) (triT_one _) (by unfold maxLen; omega) (by omega) HF.out.z.size ?_
              intro v3' W' ho hk
              have HF := Lib.hid (HF.out.app3 (by rw [hzl]; exact ho) hk)
              clear ho hk
              go_simp
              exact hK3 _ _ ⟨bb, bs, v1, v2, v3', by simp [upd, bsel, hd, hz0], by simp [upd], by simpa [upd, hd] using HF.out⟩
            | 12, ho =>
              simp only [List.getElem?_toArray, List.getElem?_cons_zero, List.getElem?_cons_succ, Option.some.injEq] at ho
              subst ho
              simp [Region.binds] at hd
              try simp only [hd, bsel_t]
              have HF := Lib.hid hF
              clear hF
              go_simp
              exact hK3 _ _ ⟨bb, bs, v1, v2, v3, by simp [upd, bsel, hd], by simp [upd, hd], HF.out⟩
            | q + 13, ho => simp at ho
          case fin =>
            intro L act W hJ hfin
            obtain ⟨bb, bs, v1, v2, v3, rfl, hI0, hF⟩ := hJ
            have l0 : L 0 = true := by
              cases e : L 0
              · have x := hfin 0 _ rfl e
                simp [Region.binds] at x
              · rfl
            have l1 : L 1 = true := by
              cases e : L 1
              · have x := hfin 1 _ rfl e
                simp [Region.binds, l0] at x
              · rfl
            have l2 : L 2 = true := by
              cases e : L 2
              · have x := hfin 2 _ rfl e
                simp [Region.binds, l0, l1] at x
              · rfl
            have l3 : L 3 = true := by
              cases e : L 3
              · have x := hfin 3 _ rfl e
                simp [Region.binds, l0, l1, l2] at x
              · rfl
            have l4 : L 4 = true := by
              cases e : L 4
              · have x := hfin 4 _ rfl e
                simp [Region.binds, l0, l1, l2, l3] at x
              · rfl
            have l5 : L 5 = true := by
              cases e : L 5
              · have x := hfin 5 _ rfl e
                simp [Region.binds, l0, l1, l2, l3, l4] at x
              · rfl
            have l6 : L 6 = true := by
              cases e : L 6
              · have x := hfin 6 _ rfl e
                simp [Region.binds, l0, l1, l2, l3, l4, l5] at x
              · rfl
            have l7 : L 7 = true := by
              cases e : L 7
              · have x := hfin 7 _ rfl e
                simp [Region.binds, l0, l1, l2, l3, l4, l5, l6] at x
              · rfl
            have l8 : L 8 = true := by
              cases e : L 8
              · have x := hfin 8 _ rfl e
                simp [Region.binds, l0, l1, l2, l3, l4, l5, l6, l7] at x
              · rfl
            have l9 : L 9 = true := by
              cases e : L 9
              · have x := hfin 9 _ rfl e
                simp [Region.binds, l0, l1, l2, l3, l4, l5, l6, l7, l8] at x
              · rfl
            have l10 : L 10 = true := by
              cases e : L 10
              · have x := hfin 10 _ rfl e
                simp [Region.binds, l0, l1, l2, l3, l4, l5, l6, l7, l8, l9] at x
              · rfl
            have l11 : L 11 = true := by
              cases e : L 11
              · have x := hfin 11 _ rfl e
                simp [Region.binds, l0, l1, l2, l3, l4, l5, l6, l7, l8, l9, l10] at x
              · rfl
            have l12 : L 12 = true := by
              cases e : L 12
              · have x := hfin 12 _ rfl e
                simp [Region.binds, l0, l1, l2, l3, l4, l5, l6, l7, l8, l9, l10, l11] at x
              · rfl
            simp only [l0, l1, l2, l3, l4, l5, l6, l7, l8, l9, l10, l11, l12, bsel_t]
            have h11 := hF.h11 l11
            have HZ := Lib.hid (HBW5.out.trans (hF.z.mono hs5))
            obtain ⟨A3, c3, rfl, h11⟩ := owns_form h11
            have HR := Lib.hid (owns_mono h11 hs5)
            clear hF hfin hI0 h11 l0 l1 l2 l3 l4 l5 l6 l7 l8 l9 l10 l11 l12
            go_wp2_with fail
            go_ret
            exact ⟨_, rfl, .inr (by rw [HPUT.out]; exact HR.out), HZ.out⟩
        · have hte : t = x := by
            simp only [Bool.and_eq_true, beq_iff_eq] at he
            exact Prod.ext he.1.1 (Prod.ext he.1.2 he.2)
          have EQ2 := EQ.out
          rw [he] at EQ2
          have HPUT := Lib.hid (HPUT.out.trans (if_pos ⟨hlt, hte⟩))
          clear he hte
          go_wp2_with fail
          go_quiet (fail)
          have HBQ := Lib.hid (below_drewN' HBW2.out nq)
          go_wp2_with fail
          go_ret
          exact ⟨_, rfl, .inl ⟨rfl, HPUT.out⟩, HBQ.out⟩
      · rw [hx] at HC
        have HC := Lib.hid HC
        have HN := Lib.hid (show ∀ j, j < k + 1 → ltT (l.getD j (0, 0, 0)) x = true from fun j hj => by
          rcases Nat.lt_succ_iff_lt_or_eq.1 hj with h' | h'
          · exact HALL.out j h'
          · rw [h', hgd]; exact hx)
        have g0 := cell_regrown h0
        have g1 := cell_regrown h1
        have g2 := cell_regrown h2
        have y0 := cell_regrown x0
        have y1 := cell_regrown x1
        have y2 := cell_regrown x2
        clear hx hgd hbw
        generalize l[k] = t at *
        go_wp2_with fail
        refine wp_region_quiet_below (by kernel_rfl) (by kernel_rfl) ?_
        repeat (quiet_step (first | exact HC.out _ _))
        refine wpQuiet_nil ?_
        intro _ hw'
        obtain ⟨⟨dq, osq⟩, hw''⟩ := hw'
        subst hw''
        have hb := below_regrown wr dq osq
        clear g0 g1 g2 y0 y1 y2
        generalize grow (redrawn wr dq) osq = W2 at *
        have HB2 := Lib.hid (HBE.out.trans (hb.mono hsz))
        clear hb
        go_wp2_with fail
        go_roundw
        case rel => exact ⟨k + 1, by omega, by go_num, HN.out, HB2.out⟩
        case measure => simp [intOf]; omega
    · obtain rfl : k = l.length := by omega
      have hput := HP.out l.length HALL.out (by omega) (fun h => by omega)
      rw [if_neg (fun h => by omega), List.take_length, List.drop_length] at hput
      have HPUT := Lib.hid hput
      clear hput hbw
      go_wp2_with fail
      go_quiet (fail)
      have HB2 := Lib.hid (below_drewN' HBE.out nq)
      obtain ⟨W2, hW2⟩ : ∃ W2, W2 = wr.drewN nq := ⟨_, rfl⟩
      rw [← hW2] at HB2 ⊢
      clear hW2 x0 x1 x2
      obtain ⟨x0, x1, x2⟩ := HX.out W2 HB2.out
      go_wp2_with fail
      go_quiet (fail)
      have HBQ := Lib.hid (below_drewN' HB2.out nq)
      obtain ⟨W5, hW5⟩ : ∃ W5, W5 = W2.drewN nq := ⟨_, rfl⟩
      rw [← hW5] at HBQ ⊢
      clear hW5 x0 x1 x2
      have HBW5 := Lib.hid (HZ0.out.trans (HBQ.out.mono HZ0.out.size))
      have hs5 := HBW5.out.size
      have hs5' := HBQ.out.size
      have b2 : (l.length : Int) ≤ (c : Int) := by omega
      by_cases hkc : c = l.length
      · subst hkc
        go_wp2_with fail
        obtain ⟨xs, hxs, hxl⟩ : ∃ xs, xs = l ∧ xs.length = l.length := ⟨_, rfl, rfl⟩
        obtain ⟨zs, hzs, hzl⟩ : ∃ zs : List I3, zs = [] ∧ zs.length = 0 := ⟨_, rfl, rfl⟩
        have HCX := Lib.hid (show ∀ W, Below w.heap.size w W → ∀ j u, (xs.flatMap tri)[j]? = some u → W.cell? ((⟨b, 0, none⟩ : Addr).add j) = some u from fun W hW => by
          have := cellsT_take (HA.out W hW) l.length
          rw [List.take_length] at this
          rw [hxs]
          exact this)
        have HCZ := Lib.hid (show ∀ W, Below w.heap.size w W → ∀ j u, (zs.flatMap tri)[j]? = some u → W.cell? ((⟨b, 0, none⟩ : Addr).add j) = some u from fun W hW j u hj => by rw [hzs] at hj; simp at hj)
        have HPUT := Lib.hid (show putG l x = xs ++ x :: zs from by rw [HPUT.out, hxs, hzs])
        clear hxs hzs
        refine wp_region_inv (by kernel_rfl) (fun L act W => ∃ (bb bs : Nat) (v1 v2 v3 : Value), act = ⟨#[Value.slice (some ⟨b, 0, none⟩) l.length l.length, Value.agg #[Value.int IntKind.i64 x.fst, Value.int IntKind.i64 x.snd.fst, Value.int IntKind.i64 x.snd.snd], undef, Value.pointer (some ⟨w.heap.size, 0, none⟩), bsel (L 12) (v3) (Value.slice none 0 0), Value.int IntKind.i64 (l.length : Int), Value.int IntKind.i64 (l.length : Int), Value.slice (some ⟨b, 0, none⟩) l.length l.length, Value.int IntKind.i64 (l.length : Int), Value.bool false, Value.bool false, undef, undef, undef, undef, undef, undef, Value.bool false, u18, u19, Value.int IntKind.i64 (l.length : Int), Value.slice (some ⟨b, 0, none⟩) l.length l.length, Value.int IntKind.i64 (l.length : Int), Value.bool false, Value.bool false, undef, undef, undef, undef, undef, undef, Value.bool false, undef, bsel (L 0) (.slice (some ⟨bb, 0, none⟩) 0 0) (undef), bsel (L 1) (.slice (some ⟨b, 0, none⟩) l.length l.length) (undef), bsel (L 2) (.int .i64 (l.length : Int)) (undef), bsel (L 3) (.slice (some ⟨b, 0, none⟩) (l.length) (l.length)) (undef), bsel (L 4) (v1) (undef), bsel (L 5) (.agg #[.int .i64 x.1, .int .i64 x.2.1, .int .i64 x.2.2]) (undef), bsel (L 6) (.slice (some ⟨bs, 0, none⟩) 1 1) (undef), bsel (L 7) (v2) (undef), bsel (L 8) (.slice (some ⟨b, 0, none⟩) l.length l.length) (undef), bsel (L 9) (.int .i64 (l.length : Int)) (undef), bsel (L 10) (.slice (some ⟨b, 0, none⟩) (0) (0)) (undef), bsel (L 11) (v3) (undef)], []⟩ ∧ (L 12 = true → L 11 = true) ∧ QF W5 xs zs x (L 0) (L 4) (L 6) (L 7) (L 11) bb bs v1 v2 v3 W) ?h0 ?step ?fin
        case h0 => exact ⟨0, 0, .bool false, .bool false, .bool false, rfl, fun h => absurd h Bool.false_ne_true, QF.start _ _ _ _ _⟩
        case step =>
          intro L act W q oo hJ hL ho hd K3 hK3
          obtain ⟨bb, bs, v1, v2, v3, rfl, hI0, hF⟩ := hJ
          match q, ho with
          | 0, ho =>
            simp only [List.getElem?_toArray, List.getElem?_cons_zero, List.getElem?_cons_succ, Option.some.injEq] at ho
            subst ho
            simp [Region.binds] at hd
            rw [hL] at hF
            have HF := Lib.hid hF.nil
            clear hF
            go_simp
            exact hK3 _ _ ⟨W.heap.size, bs, v1, v2, v3, by simp [upd, bsel], by simpa [upd] using hI0, by simpa [upd] using HF.out⟩
          | 1, ho =>
            simp only [List.getElem?_toArray, List.getElem?_cons_zero, List.getElem?_cons_succ, Option.some.injEq] at ho
            subst ho
            simp [Region.binds] at hd
            try simp only [hd, bsel_t]
            have HF := Lib.hid hF
            clear hF
            go_simp
            exact hK3 _ _ ⟨bb, bs, v1, v2, v3, by simp [upd, bsel], by simpa [upd] using hI0, HF.out⟩
          | 2, ho =>
            simp only [List.getElem?_toArray, List.getElem?_cons_zero, List.getElem?_cons_succ, Option.some.injEq] at ho
            subst ho
            simp [Region.binds] at hd
            try simp only [hd, bsel_t]
            have HF := Lib.hid hF
            clear hF
            go_simp
            exact hK3 _ _ ⟨bb, bs, v1, v2, v3, by simp [upd, bsel], by simpa [upd] using hI0, HF.out⟩
          | 3, ho =>
            simp only [List.getElem?_toArray, List.getElem?_cons_zero, List.getElem?_cons_succ, Option.some.injEq] at ho
            subst ho
            simp [Region.binds] at hd
            try simp only [hd, bsel_t]
            have HF := Lib.hid hF
            clear hF
            go_simp
            exact hK3 _ _ ⟨bb, bs, v1, v2, v3, by simp [upd, bsel, hd], by simpa [upd] using hI0, HF.out⟩
          | 4, ho =>
            simp only [List.getElem?_toArray, List.getElem?_cons_zero, List.getElem?_cons_succ, Option.some.injEq] at ho
            subst ho
            simp [Region.binds] at hd
            have d0 : L 0 = true := by simp [hd]
            rw [d0, hL] at hF
            simp only [hd, bsel_t]
            have HF := Lib.hid hF
            clear hF
            refine step_app el_a3 rfl (.tmp 33) (.tmp 36) rfl W5.heap.size (.slice (some ⟨bb, 0, none⟩) 0 0) 0 [] (by rfl) (HF.out.h0 rfl rfl) ⟨b, 0, none⟩ (l.length) (l.length) (xs.flatMap tri) (by rfl) (by rw [triT_len, hxl]) (HCX.out W (HBW5.out.trans (HF.out.z.mono hs5))) (triT_one _) (by unfold maxLen; omega) (by omega) HF.out.z.size ?_
            intro v1' W' ho hk
            have HF := Lib.hid (HF.out.app1 (by rw [hxl]; exact ho) hk)
            clear ho hk
            go_simp
            exact hK3 _ _ ⟨bb, bs, v1', v2, v3, by simp [upd, bsel, hd], by simpa [upd] using hI0, by simpa [upd, hd] using HF.out⟩
          | 5, ho =>
            simp only [List.getElem?_toArray, List.getElem?_cons_zero, List.getElem?_cons_succ, Option.some.injEq] at ho
            subst ho
            simp [Region.binds] at hd
            obtain ⟨x0, x1, x2⟩ := HX.out W (HBQ.out.trans (hF.z.mono hs5'))
            try simp only [hd, bsel_t]
            have HF := Lib.hid hF
            clear hF
            go_simp
            exact hK3 _ _ ⟨bb, bs, v1, v2, v3, by simp [upd, bsel], by simpa [upd] using hI0, HF.out⟩
          | 6, ho =>
            simp only [List.getElem?_toArray, List.getElem?_cons_zero, List.getElem?_cons_succ, Option.some.injEq] at ho
            subst ho
            simp [Region.binds] at hd
            rw [hL] at hF
            simp only [hd, bsel_t]
            have HF := Lib.hid hF.one
            clear hF
            go_simp
            exact hK3 _ _ ⟨bb, W.heap.size, v1, v2, v3, by simp [upd, bsel, hd], by simpa [upd] using hI0, by simpa [upd, hd] using HF.out⟩
          | 7, ho =>
            simp only [List.getElem?_toArray, List.getElem?_cons_zero, List.getElem?_cons_succ, Option.some.injEq] at ho
            subst ho
            simp [Region.binds] at hd
            obtain ⟨d4, d6⟩ : L 4 = true ∧ L 6 = true := by simp [hd]
            rw [d4, d6, hL] at hF
            simp only [hd, bsel_t]
            have HF := Lib.hid hF
            clear hF
            refine step_app el_a3 rfl (.tmp 37) (.tmp 39) rfl W5.heap.size v1 xs.length (xs.flatMap tri) (by rfl) (HF.out.h4 rfl rfl) ⟨bs, 0, none⟩ 1 1 (tri x) (by rfl) rfl (fun j u hj => (HF.out.h6 rfl rfl).cells (g := bs) rfl j u hj) (by intro u hu; simp [tri] at hu; rcases hu with rfl | rfl | rfl <;> rfl) (by unfold maxLen; omega) (by omega) HF.out.z.size ?_
            intro v2' W' ho hk
            have HF := Lib.hid (HF.out.app2 ho hk)
            clear ho hk
            go_simp
            exact hK3 _ _ ⟨bb, bs, v1, v2', v3, by simp [upd, bsel, hd], by simpa [upd] using hI0, by simpa [upd, hd] using HF.out⟩
          | 8, ho =>
            simp only [List.getElem?_toArray, List.getElem?_cons_zero, List.getElem?_cons_succ, Option.some.injEq] at ho
            subst ho
            simp [Region.binds] at hd
            try simp only [hd, bsel_t]
            have HF := Lib.hid hF
            clear hF
            go_simp
            exact hK3 _ _ ⟨bb, bs, v1, v2, v3, by simp [upd, bsel], by simpa [upd] using hI0, HF.out⟩
          | 9, ho =>
            simp only [List.getElem?_toArray, List.getElem?_cons_zero, List.getElem?_cons_succ, Option.some.injEq] at ho
            subst ho
            simp [Region.binds] at hd
            try simp only [hd, bsel_t]
            have HF := Lib.hid hF
            clear hF
            go_simp
            exact hK3 _ _ ⟨bb, bs, v1, v2, v3, by simp [upd, bsel], by simpa [upd] using hI0, HF.out⟩
          | 10, ho =>
            simp only [List.getElem?_toArray, List.getElem?_cons_zero, List.getElem?_cons_succ, Option.some.injEq] at ho
            subst ho
            simp [Region.binds] at hd
            try simp only [hd, bsel_t]
            have HF := Lib.hid hF
            clear hF
            go_simp
            exact hK3 _ _ ⟨bb, bs, v1, v2, v3, by simp [upd, bsel, hd], by simpa [upd] using hI0, HF.out⟩
          | 11, ho =>
            simp only [List.getElem?_toArray, List.getElem?_cons_zero, List.getElem?_cons_succ, Option.some.injEq] at ho
            subst ho
            simp [Region.binds] at hd
            have hz0 : L 12 = false := by
              cases e : L 12
              · rfl
              · exact absurd (hI0 e) (by simp [hL])
            have d7 : L 7 = true := by simp [hd]
            rw [d7, hL] at hF
            simp only [hd, bsel_t]
            have HF := Lib.hid hF
            clear hF
            refine step_app el_a3 rfl (.tmp 40) (.tmp 43) rfl W5.heap.size v2 (xs.length + 1) (xs.flatMap tri ++ tri x) (by rfl) (HF.out.h7 rfl rfl) ⟨b, 0, none⟩ (0) (0) (zs.flatMap tri) (by rfl) (by rw [triT_len, hzl]) (HCZ.out W (HBW5.out.trans (HF.out.z.mono hs5))) (triT_one _) (by unfold maxLen; omega) (by omega) HF.out.z.size ?_
            intro v3' W' ho hk
            have HF := Lib.hid (HF.out.app3 (by rw [hzl]; exact ho) hk)
            clear ho hk
            go_simp
            exact hK3 _ _ ⟨bb, bs, v1, v2, v3', by simp [upd, bsel, hd, hz0], by simp [upd], by simpa [upd, hd] using HF.out⟩
          | 12, ho =>
            simp only [List.getElem?_toArray, List.getElem?_cons_zero, List.getElem?_cons_succ, Option.some.injEq] at ho
            subst ho
            simp [Region.binds] at hd
            try simp only [hd, bsel_t]
            have HF := Lib.hid hF
            clear hF
            go_simp
            exact hK3 _ _ ⟨bb, bs, v1, v2, v3, by simp [upd, bsel, hd], by simp [upd, hd], HF.out⟩
          | q + 13, ho => simp at ho
        case fin =>
          intro L act W hJ hfin
          obtain ⟨bb, bs, v1, v2, v3, rfl, hI0, hF⟩ := hJ
          have l0 : L 0 = true := by
            cases e : L 0
            · have x := hfin 0 _ rfl e
              simp [Region.binds] at x
            · rfl
          have l1 : L 1 = true := by
            cases e : L 1
            · have x := hfin 1 _ rfl e
              simp [Region.binds, l0] at x
            · rfl
          have l2 : L 2 = true := by
            cases e : L 2
            · have x := hfin 2 _ rfl e
              simp [Region.binds, l0, l1] at x
            · rfl
          have l3 : L 3 = true := by
            cases e : L 3
            · have x := hfin 3 _ rfl e
              simp [Region.binds, l0, l1, l2] at x
            · rfl
          have l4 : L 4 = true := by
            cases e : L 4
            · have x := hfin 4 _ rfl e
              simp [Region.binds, l0, l1, l2, l3] at x
            · rfl
          have l5 : L 5 = true := by
            cases e : L 5
            · have x := hfin 5 _ rfl e
              simp [Region.binds, l0, l1, l2, l3, l4] at x
            · rfl
          have l6 : L 6 = true := by
            cases e : L 6
            · have x := hfin 6 _ rfl e
              simp [Region.binds, l0, l1, l2, l3, l4, l5] at x
            · rfl
          have l7 : L 7 = true := by
            cases e : L 7
            · have x := hfin 7 _ rfl e
              simp [Region.binds, l0, l1, l2, l3, l4, l5, l6] at x
            · rfl
          have l8 : L 8 = true := by
            cases e : L 8
            · have x := hfin 8 _ rfl e
              simp [Region.binds, l0, l1, l2, l3, l4, l5, l6, l7] at x
            · rfl
          have l9 : L 9 = true := by
            cases e : L 9
            · have x := hfin 9 _ rfl e
              simp [Region.binds, l0, l1, l2, l3, l4, l5, l6, l7, l8] at x
            · rfl
          have l10 : L 10 = true := by
            cases e : L 10
            · have x := hfin 10 _ rfl e
              simp [Region.binds, l0, l1, l2, l3, l4, l5, l6, l7, l8, l9] at x
            · rfl
          have l11 : L 11 = true := by
            cases e : L 11
            · have x := hfin 11 _ rfl e
              simp [Region.binds, l0, l1, l2, l3, l4, l5, l6, l7, l8, l9, l10] at x
            · rfl
          have l12 : L 12 = true := by
            cases e : L 12
            · have x := hfin 12 _ rfl e
              simp [Region.binds, l0, l1, l2, l3, l4, l5, l6, l7, l8, l9, l10, l11] at x
            · rfl
          simp only [l0, l1, l2, l3, l4, l5, l6, l7, l8, l9, l10, l11, l12, bsel_t]
          have h11 := hF.h11 l11
          have HZ := Lib.hid (HBW5.out.trans (hF.z.mono hs5))
          obtain ⟨A3, c3, rfl, h11⟩ := owns_form h11
          have HR := Lib.hid (owns_mono h11 hs5)
          clear hF hfin hI0 h11 l0 l1 l2 l3 l4 l5 l6 l7 l8 l9 l10 l11 l12
          go_wp2_with fail
          go_ret
          exact ⟨_, rfl, .inr (by rw [HPUT.out]; exact HR.out), HZ.out⟩
      · have hkd : ¬ l.length = c := by omega
        have hke : ((l.length : Int) == (c : Int)) = false := by rw [beq_eq_false_iff_ne]; omega
        go_wp2_with fail
        obtain ⟨xs, hxs, hxl⟩ : ∃ xs, xs = l ∧ xs.length = l.length := ⟨_, rfl, rfl⟩
        obtain ⟨zs, hzs, hzl⟩ : ∃ zs : List I3, zs = [] ∧ zs.length = 0 := ⟨_, rfl, rfl⟩
        have HCX := Lib.hid (show ∀ W, Below w.heap.size w W → ∀ j u, (xs.flatMap tri)[j]? = some u → W.cell? ((⟨b, 0, none⟩ : Addr).add j) = some u from fun W hW => by
          have := cellsT_take (HA.out W hW) l.length
          rw [List.take_length] at this
          rw [hxs]
          exact this)
        have HCZ := Lib.hid (show ∀ W, Below w.heap.size w W → ∀ j u, (zs.flatMap tri)[j]? = some u → W.cell? ((⟨b, l.length * 3, none⟩ : Addr).add j) = some u from fun W hW j u hj => by rw [hzs] at hj; simp at hj)
        have HPUT := Lib.hid (show putG l x = xs ++ x :: zs from by rw [HPUT.out, hxs, hzs])
        clear hxs hzs
        refine wp_region_inv (by kernel_rfl) (fun L act W => ∃ (bb bs : Nat) (v1 v2 v3 : Value), act = ⟨#[Value.slice (some ⟨b, 0, none⟩) l.length c, Value.agg #[Value.int IntKind.i64 x.fst, Value.int IntKind.i64 x.snd.fst, Value.int IntKind.i64 x.snd.snd], undef, Value.pointer (some ⟨w.heap.size, 0, none⟩), bsel (L 12) (v3) (Value.slice none 0 0), Value.int IntKind.i64 (l.length : Int), Value.int IntKind.i64 (l.length : Int), Value.slice (some ⟨b, 0, none⟩) l.length c, Value.int IntKind.i64 (l.length : Int), Value.bool false, Value.bool false, undef, undef, undef, undef, undef, undef, Value.bool false, u18, u19, Value.int IntKind.i64 (l.length : Int), Value.slice (some ⟨b, 0, none⟩) l.length c, Value.int IntKind.i64 (l.length : Int), Value.bool false, Value.bool false, undef, undef, undef, undef, undef, undef, Value.bool false, undef, bsel (L 0) (.slice (some ⟨bb, 0, none⟩) 0 0) (undef), bsel (L 1) (.slice (some ⟨b, 0, none⟩) l.length c) (undef), bsel (L 2) (.int .i64 (l.length : Int)) (undef), bsel (L 3) (.slice (some ⟨b, 0, none⟩) (l.length) (c)) (undef), bsel (L 4) (v1) (undef), bsel (L 5) (.agg #[.int .i64 x.1, .int .i64 x.2.1, .int .i64 x.2.2]) (undef), bsel (L 6) (.slice (some ⟨bs, 0, none⟩) 1 1) (undef), bsel (L 7) (v2) (undef), bsel (L 8) (.slice (some ⟨b, 0, none⟩) l.length c) (undef), bsel (L 9) (.int .i64 (l.length : Int)) (undef), bsel (L 10) (.slice (some ⟨b, l.length * 3, none⟩) (0) (c - l.length)) (undef), bsel (L 11) (v3) (undef)], []⟩ ∧ (L 12 = true → L 11 = true) ∧ QF W5 xs zs x (L 0) (L 4) (L 6) (L 7) (L 11) bb bs v1 v2 v3 W) ?h0 ?step ?fin
        case h0 => exact ⟨0, 0, .bool false, .bool false, .bool false, rfl, fun h => absurd h Bool.false_ne_true, QF.start _ _ _ _ _⟩
        case step =>
          intro L act W q oo hJ hL ho hd K3 hK3
          obtain ⟨bb, bs, v1, v2, v3, rfl, hI0, hF⟩ := hJ
          match q, ho with
          | 0, ho =>
            simp only [List.getElem?_toArray, List.getElem?_cons_zero, List.getElem?_cons_succ, Option.some.injEq] at ho
            subst ho
            simp [Region.binds] at hd
            rw [hL] at hF
            have HF := Lib.hid hF.nil
            clear hF
            go_simp
            exact hK3 _ _ ⟨W.heap.size, bs, v1, v2, v3, by simp [upd, bsel], by simpa [upd] using hI0, by simpa [upd] using HF.out⟩
          | 1, ho =>
            simp only [List.getElem?_toArray, List.getElem?_cons_zero, List.getElem?_cons_succ, Option.some.injEq] at ho
            subst ho
            simp [Region.binds] at hd
            try simp only [hd, bsel_t]
            have HF := Lib.hid hF
            clear hF
            go_simp
            exact hK3 _ _ ⟨bb, bs, v1, v2, v3, by simp [upd, bsel], by simpa [upd] using hI0, HF.out⟩
          | 2, ho =>
            simp only [List.getElem?_toArray, List.getElem?_cons_zero, List.getElem?_cons_succ, Option.some.injEq] at ho
            subst ho
            simp [Region.binds] at hd
            try simp only [hd, bsel_t]
            have HF := Lib.hid hF
            clear hF
            go_simp
            exact hK3 _ _ ⟨bb, bs, v1, v2, v3, by simp [upd, bsel], by simpa [upd] using hI0, HF.out⟩
          | 3, ho =>
            simp only [List.getElem?_toArray, List.getElem?_cons_zero, List.getElem?_cons_succ, Option.some.injEq] at ho
            subst ho
            simp [Region.binds] at hd
            try simp only [hd, bsel_t]
            have HF := Lib.hid hF
            clear hF
            go_simp
            exact hK3 _ _ ⟨bb, bs, v1, v2, v3, by simp [upd, bsel, hd], by simpa [upd] using hI0, HF.out⟩
          | 4, ho =>
            simp only [List.getElem?_toArray, List.getElem?_cons_zero, List.getElem?_cons_succ, Option.some.injEq] at ho
            subst ho
            simp [Region.binds] at hd
            have d0 : L 0 = true := by simp [hd]
            rw [d0, hL] at hF
            simp only [hd, bsel_t]
            have HF := Lib.hid hF
            clear hF
            refine step_app el_a3 rfl (.tmp 33) (.tmp 36) rfl W5.heap.size (.slice (some ⟨bb, 0, none⟩) 0 0) 0 [] (by rfl) (HF.out.h0 rfl rfl) ⟨b, 0, none⟩ (l.length) (c) (xs.flatMap tri) (by rfl) (by rw [triT_len, hxl]) (HCX.out W (HBW5.out.trans (HF.out.z.mono hs5))) (triT_one _) (by unfold maxLen; omega) (by omega) HF.out.z.size ?_
            intro v1' W' ho hk
            have HF := Lib.hid (HF.out.app1 (by rw [hxl]; exact ho) hk)
            clear ho hk
            go_simp
            exact hK3 _ _ ⟨bb, bs, v1', v2, v3, by simp [upd, bsel, hd], by simpa [upd] using hI0, by simpa [upd, hd] using HF.out⟩
          | 5, ho =>
            simp only [List.getElem?_toArray, List.getElem?_cons_zero, List.getElem?_cons_succ, Option.some.injEq] at ho
            subst ho
            simp [Region.binds] at hd
            obtain ⟨x0, x1, x2⟩ := HX.out W (HBQ.out.trans (hF.z.mono hs5'))
            try simp only [hd, bsel_t]
            have HF := Lib.hid hF
            clear hF
            go_simp
            exact hK3 _ _ ⟨bb, bs, v1, v2, v3, by simp [upd, bsel], by simpa [upd] using hI0, HF.out⟩
          | 6, ho =>
            simp only [List.getElem?_toArray, List.getElem?_cons_zero, List.getElem?_cons_succ, Option.some.injEq] at ho
            subst ho
            simp [Region.binds] at hd
            rw [hL] at hF
            simp only [hd, bsel_t]
            have HF := Lib.hid hF.one
            clear hF
            go_simp
            exact hK3 _ _ ⟨bb, W.heap.size, v1, v2, v3, by simp [upd, bsel, hd], by simpa [upd] using hI0, by simpa [upd, hd] using HF.out⟩
          | 7, ho =>
            simp only [List.getElem?_toArray, List.getElem?_cons_zero, List.getElem?_cons_succ, Option.some.injEq] at ho
            subst ho
            simp [Region.binds] at hd
            obtain ⟨d4, d6⟩ : L 4 = true ∧ L 6 = true := by simp [hd]
            rw [d4, d6, hL] at hF
            simp only [hd, bsel_t]
            have HF := Lib.hid hF
            clear hF
            refine step_app el_a3 rfl (.tmp 37) (.tmp 39) rfl W5.heap.size v1 xs.length (xs.flatMap tri) (by rfl) (HF.out.h4 rfl rfl) ⟨bs, 0, none⟩ 1 1 (tri x) (by rfl) rfl (fun j u hj => (HF.out.h6 rfl rfl).cells (g := bs) rfl j u hj) (by intro u hu; simp [tri] at hu; rcases hu with rfl | rfl | rfl <;> rfl) (by unfold maxLen; omega) (by omega) HF.out.z.size ?_
            intro v2' W' ho hk
            have HF := Lib.hid (HF.out.app2 ho hk)
            clear ho hk
            go_simp
            exact hK3 _ _ ⟨bb, bs, v1, v2', v3, by simp [upd, bsel, hd], by simpa [upd] using hI0, by simpa [upd, hd] using HF.out⟩
          | 8, ho =>
            simp only [List.getElem?_toArray, List.getElem?_cons_zero, List.getElem?_cons_succ, Option.some.injEq] at ho
            subst ho
            simp [Region.binds] at hd
            try simp only [hd, bsel_t]
            have HF := Lib.hid hF
            clear hF
            go_simp
            exact hK3 _ _ ⟨bb, bs, v1, v2, v3, by simp [upd, bsel], by simpa [upd] using hI0, HF.out⟩
          | 9, ho =>
            simp only [List.getElem?_toArray, List.getElem?_cons_zero, List.getElem?_cons_succ, Option.some.injEq] at ho
            subst ho
            simp [Region.binds] at hd
            try simp only [hd, bsel_t]
            have HF := Lib.hid hF
            clear hF
            go_simp
            exact hK3 _ _ ⟨bb, bs, v1, v2, v3, by simp [upd, bsel], by simpa [upd] using hI0, HF.out⟩
          | 10, ho =>
            simp only [List.getElem?_toArray, List.getElem?_cons_zero, List.getElem?_cons_succ, Option.some.injEq] at ho
            subst ho
            simp [Region.binds] at hd
            try simp only [hd, bsel_t]
            have HF := Lib.hid hF
            clear hF
            go_simp
            exact hK3 _ _ ⟨bb, bs, v1, v2, v3, by simp [upd, bsel, hd], by simpa [upd] using hI0, HF.out⟩
          | 11, ho =>
            simp only [List.getElem?_toArray, List.getElem?_cons_zero, List.getElem?_cons_succ, Option.some.injEq] at ho
            subst ho
            simp [Region.binds] at hd
            have hz0 : L 12 = false := by
              cases e : L 12
              · rfl
              · exact absurd (hI0 e) (by simp [hL])
            have d7 : L 7 = true := by simp [hd]
            rw [d7, hL] at hF
            simp only [hd, bsel_t]
            have HF := Lib.hid hF
            clear hF
            refine step_app el_a3 rfl (.tmp 40) (.tmp 43) rfl W5.heap.size v2 (xs.length + 1) (xs.flatMap tri ++ tri x) (by rfl) (HF.out.h7 rfl rfl) ⟨b, l.length * 3, none⟩ (0) (c - l.length) (zs.flatMap tri) (by rfl) (by rw [triT_len, hzl]) (HCZ.out W (HBW5.out.trans (HF.out.z.mono hs5))) (triT_one _) (by unfold maxLen; omega) (by omega) HF.out.z.size ?_
            intro v3' W' ho hk
            have HF := Lib.hid (HF.out.app3 (by rw [hzl]; exact ho) hk)
            clear ho hk
            go_simp
            exact hK3 _ _ ⟨bb, bs, v1, v2, v3', by simp [upd, bsel, hd, hz0], by simp [upd], by simpa [upd, hd] using HF.out⟩
          | 12, ho =>
            simp only [List.getElem?_toArray, List.getElem?_cons_zero, List.getElem?_cons_succ, Option.some.injEq] at ho
            subst ho
            simp [Region.binds] at hd
            try simp only [hd, bsel_t]
            have HF := Lib.hid hF
            clear hF
            go_simp
            exact hK3 _ _ ⟨bb, bs, v1, v2, v3, by simp [upd, bsel, hd], by simp [upd, hd], HF.out⟩
          | q + 13, ho => simp at ho
        case fin =>
          intro L act W hJ hfin
          obtain ⟨bb, bs, v1, v2, v3, rfl, hI0, hF⟩ := hJ
          have l0 : L 0 = true := by
            cases e : L 0
            · have x := hfin 0 _ rfl e
              simp [Region.binds] at x
            · rfl
          have l1 : L 1 = true := by
            cases e : L 1
            · have x := hfin 1 _ rfl e
              simp [Region.binds, l0] at x
            · rfl
          have l2 : L 2 = true := by
            cases e : L 2
            · have x := hfin 2 _ rfl e
              simp [Region.binds, l0, l1] at x
            · rfl
          have l3 : L 3 = true := by
            cases e : L 3
            · have x := hfin 3 _ rfl e
              simp [Region.binds, l0, l1, l2] at x
            · rfl
          have l4 : L 4 = true := by
            cases e : L 4
            · have x := hfin 4 _ rfl e
              simp [Region.binds, l0, l1, l2, l3] at x
            · rfl
          have l5 : L 5 = true := by
            cases e : L 5
            · have x := hfin 5 _ rfl e
              simp [Region.binds, l0, l1, l2, l3, l4] at x
            · rfl
          have l6 : L 6 = true := by
            cases e : L 6
            · have x := hfin 6 _ rfl e
              simp [Region.binds, l0, l1, l2, l3, l4, l5] at x
            · rfl
          have l7 : L 7 = true := by
            cases e : L 7
            · have x := hfin 7 _ rfl e
              simp [Region.binds, l0, l1, l2, l3, l4, l5, l6] at x
            · rfl
          have l8 : L 8 = true := by
            cases e : L 8
            · have x := hfin 8 _ rfl e
              simp [Region.binds, l0, l1, l2, l3, l4, l5, l6, l7] at x
            · rfl
          have l9 : L 9 = true := by
            cases e : L 9
            · have x := hfin 9 _ rfl e
              simp [Region.binds, l0, l1, l2, l3, l4, l5, l6, l7, l8] at x
            · rfl
          have l10 : L 10 = true := by
            cases e : L 10
            · have x := hfin 10 _ rfl e
              simp [Region.binds, l0, l1, l2, l3, l4, l5, l6, l7, l8, l9] at x
            · rfl
          have l11 : L 11 = true := by
            cases e : L 11
            · have x := hfin 11 _ rfl e
              simp [Region.binds, l0, l1, l2, l3, l4, l5, l6, l7, l8, l9, l10] at x
            · rfl
          have l12 : L 12 = true := by
            cases e : L 12
            · have x := hfin 12 _ rfl e
              simp [Region.binds, l0, l1, l2, l3, l4, l5, l6, l7, l8, l9, l10, l11] at x
            · rfl
          simp only [l0, l1, l2, l3, l4, l5, l6, l7, l8, l9, l10, l11, l12, bsel_t]
          have h11 := hF.h11 l11
          have HZ := Lib.hid (HBW5.out.trans (hF.z.mono hs5))
          obtain ⟨A3, c3, rfl, h11⟩ := owns_form h11
          have HR := Lib.hid (owns_mono h11 hs5)
          clear hF hfin hI0 h11 l0 l1 l2 l3 l4 l5 l6 l7 l8 l9 l10 l11 l12
          go_wp2_with fail
          go_ret
          exact ⟨_, rfl, .inr (by rw [HPUT.out]; exact HR.out), HZ.out⟩

end Go.Proofs.YtdgnhfhaaghoaaaGreatDoor
