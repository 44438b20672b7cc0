/- A labelled system and pairs of states drawn: the draw of IsBisimulation. -/
import Derived.Test.YtdgnhfhaaghoaaaGreatDoorProg
import Derived.Test.YtdgnhfhaaghoaaaGreatDoorJ34
import Derived.Test.YtdgnhfhaaghoaaaGreatDoorJ33
import Derived.Deep.CutBlock
import Derived.Test.YtdgnhfhaaghoaaaGreatDoorJ23
import Derived.Test.YtdgnhfhaaghoaaaGreatDoorJ3
set_option linter.unusedSimpArgs false
set_option linter.unusedVariables false
namespace Go.Proofs.YtdgnhfhaaghoaaaGreatDoor
open Go.RowKit

theorem el_a2 : El Tryz.prog 60 66 2 16 := El.mk' Tryz.underlying60 (by kernel_rfl : _ = some (some (.agg #[.int .i64 0, .int .i64 0]), 2, 16)) rfl (by decide)
theorem l11LastG_any (v : Value) (l : Lab) (W : World) (hs : SmallLab l) (hg : goodLab l = true) (hv : RLab W v l) :
  Calls Tryz.prog 90 #[v] W fun e w' => ∃ r, e = .returned r ∧ w'.ownsRow W.heap.size 3 1 r (lastL l).length (ints (lastL l)) ∧ Below W.heap.size W w' :=
 l11Last_any v l W hv (fun W hW => l11Rounds_any v l W hs (by have := goodF_many hg; omega) (goodF_size hg).1 (goodF_size hg).2 (goodF_steps hg) (goodF_acts hg) hW)

/-- Results: a struct in a cell, and a slot. -/
theorem results_cell_row2 {P : Program} {fn : Func} {p q : Tmp} {ty : TypeId} (h : fn.results = #[.cell p ty, .tmp q]) (tmps : Array Value) (w : World) (g : Nat) (t : TypeId) (cs : Array Value) (fr : Nat × Nat) (d : TypeDesc)
  (hp : tmps.getD p undef = .pointer (some ⟨g, 0, none⟩)) (hg : w.heap[g]? = some (.cells cs t fr))
  (hu : P.underlying ty = some d) (hd : (match d with | .struct _ | .array _ _ => true | _ => false) = true) (hi : (P.info? ty).map (·.size) = some cs.size) :
  (results fn tmps).run P w = .ok (.tuple #[.agg cs, tmps.getD q undef]) w := by
 have hp' : tmps[p]?.getD undef = .pointer (some ⟨g, 0, none⟩) := by simpa using hp
 simp [results, h, hp', asAddr, run_loadVar_row w g t ty cs fr d hg hu hd hi]

/-- Pairs while they are drawn. -/
structure PL (wz : World) (p : Nat) (A : Option Addr) (bs : List Int) (c K : Nat) (v LV : Value) (L : List Int) (ps : List I2) (W : World) : Prop where
 k : Kept (fun q => q = p) wz W
 cur : Cur W p A bs c K
 own : W.ownsRow wz.heap.size 66 2 v ps.length (ps.flatMap duo)
 lst : W.ownsRow wz.heap.size 3 1 LV L.length (ints L)
section
variable {wz W W' : World} {p c K : Nat} {A : Option Addr} {bs : List Int} {v LV : Value} {L : List Int} {ps : List I2}
theorem PL.draw {K' : Nat} (h : PL wz p A bs c K v LV L ps W) (hp : p < wz.heap.size) (hk : Kept (fun q => q = p) W W') (hC : Cur W' p A bs c K') : PL wz p A bs c K' v LV L ps W' :=
  { k := h.k.trans hk, cur := hC, own := owns_kept h.own hk (fun q hq e => by have := (h.own.lt q hq).1; omega), lst := owns_kept h.lst hk (fun q hq e => by have := (h.lst.lt q hq).1; omega) }
theorem PL.lay (h : PL wz p A bs c K v LV L ps W) (hb : Below W.heap.size W W') : PL wz p A bs c K v LV L ps W' :=
  { k := h.k.below' hb, cur := h.cur.below hb, own := owns_below h.own hb (Nat.le_refl _), lst := owns_below h.lst hb (Nat.le_refl _) }
theorem PL.mono {K' : Nat} (h : PL wz p A bs c K v LV L ps W) (hK : K ≤ K') : PL wz p A bs c K' v LV L ps W := { h with cur := h.cur.mono hK }
theorem PL.app {v' : Value} {x : I2} (h : PL wz p A bs c K v LV L ps W) (hp : p < wz.heap.size) (ho : W'.ownsRow wz.heap.size 66 2 v' (ps.length + 1) (ps.flatMap duo ++ duo x)) (hk : Kept (fun q => v.ownBlock = some q) W W') : PL wz p A bs c K v' LV L (ps ++ [x]) W' :=
  { k := h.k.newer hk (fun q hq => (h.own.lt q hq).1), cur := h.cur.kept hk (fun q hq => by have := (h.own.lt q hq).1; omega), own := by simpa using ho, lst := owns_kept h.lst hk (fun g hg e => owns_apart' h.lst h.own (by decide) g hg e) }
end

set_option maxRecDepth 100000 in
set_option maxHeartbeats 16000000 in
theorem drawIsBisimulation_any (A : Option Addr) (bs : List Int) (c : Nat) (w : World) (hA : Cells w A (u8s bs)) (hrng : ∀ x ∈ bs, 0 ≤ x ∧ x < 256) (hlen : bs.length ≤ 1000000000000) :
  Calls Tryz.prog 47 #[.slice A bs.length c] w fun e w' => ∃ (u t v : Value) (ps : List I2), e = .returned (.tuple #[.agg #[u, t], v]) ∧ DLab w w' u t ∧ RA2 w' v ps ∧ ps.length ≤ 10000 ∧ Below w.heap.size w w' := by
 obtain ⟨W0, hW0⟩ : ∃ W0, W0 = (w.alloc (.cells #[.slice none 0 0, .slice none 0 0] 27)).alloc (.cells #[.slice A bs.length c, .int .i64 0, .int .u64 0] 94) := ⟨_, rfl⟩
 have hb0 : Below w.heap.size w W0 := by rw [hW0]; exact ((Below.refl _ _).alloc (Nat.le_refl _) _).alloc (by simp) _
 have hs0 : W0.heap.size = w.heap.size + 1 + 1 := by rw [hW0]; simp
 have bx0 : W0.heap[w.heap.size]? = some (.cells #[.slice none 0 0, .slice none 0 0] 27) := by
  rw [hW0]
  exact (heap_alloc_old _ _ (by simp)).trans (heap_alloc_new _ _)
 have hC : Cur W0 (w.heap.size + 1) A bs c 0 := by
  have h := Cur.start (c := c) (hA.below (((Below.refl w.heap.size w).alloc (Nat.le_refl _) (.cells #[.slice none 0 0, .slice none 0 0] 27)))) hrng hlen
  rw [World.size_alloc] at h
  rw [hW0]; exact h
 have HC := Lib.hid hC
 have HB0 := Lib.hid hb0
 have HX0 := Lib.hid bx0
 have HW0 := Lib.hid hW0
 clear hC hb0 bx0 hW0 hA
 go_enter Tryz.func47, Tryz.ntmps47
 go_wp2_with fail
 rw [← HW0.out]
 (with_reducible refine (labelled_any (w.heap.size + 1) A bs c 0 W0 HC.out (by omega)).mono ?_)
 rintro e w1 ⟨u, t, rfl, hD, hC1, hK1⟩
 obtain ⟨l, AU, cU, AT, cT, hsm, hz, rfl, rfl, hR⟩ := hD.open_
 have hs1 := hK1.size
 -- the box of l, then the empty row of pairs
 obtain ⟨wz, hwz⟩ : ∃ wz, wz = w1.alloc (.cells #[.slice AU l.shows.length cU, .slice AT l.steps.length cT] 27) := ⟨_, rfl⟩
 have hbz := below_new hwz
 have hsz : wz.heap.size = w1.heap.size + 1 := by rw [hwz]; simp
 have HAT := Lib.hid (At.new hwz hR)
 have HDZ := Lib.hid (show DLab W0 wz (.slice AU l.shows.length cU) (.slice AT l.steps.length cT) from hD.kept (S := fun _ => False) (Kept.of_below hbz _) (fun q h => h.elim))
 have HKZ := Lib.hid (hK1.below' hbz)
 have HCZ := Lib.hid ((hC1.mono (show 0 + 1000 ≤ 1000 by omega)).below hbz)
 obtain ⟨w2, hw2⟩ : ∃ w2, w2 = wz.alloc (.cells #[] 66) := ⟨_, rfl⟩
 have hb2 := below_new hw2
 have hs2 : w2.heap.size = wz.heap.size + 1 := by rw [hw2]; simp
 have HO2 := Lib.hid (show w2.ownsRow wz.heap.size 66 2 (.slice (some ⟨w1.heap.size + 1, 0, none⟩) 0 0) 0 [] by rw [← hsz, hw2]; exact World.ownsRow_made wz #[] 0 (Nat.le_refl _) (Nat.zero_le _) rfl)
 have HB2 := Lib.hid hb2
 have HWZ := Lib.hid hwz
 have HW2 := Lib.hid hw2
 obtain ⟨c0, c1⟩ := (HAT.out.below hb2).cells
 rw [hw2, hwz] at c0 c1
 clear hD hR hC1 hK1 hbz hwz hw2 hb2
 go_wp2_with fail
 rw [← HWZ.out, ← HW2.out]
 clear c0 c1
 (with_reducible refine (l11Good_any _ l w2 hsm (HAT.out.below HB2.out).r).mono ?_)
 rintro e w3 ⟨rfl, hb3⟩
 have HB3 := Lib.hid (HB2.out.trans (hb3.mono (by omega)))
 have HO3 := Lib.hid (owns_below HO2.out hb3 (Nat.le_refl _))
 have hs3 := hb3.size
 have hP3 : PL wz (w.heap.size + 1) A bs c 1000 (.slice (some ⟨w1.heap.size + 1, 0, none⟩) 0 0) (.slice none 0 0) [] [] w3 := { k := Kept.of_below HB3.out _, cur := HCZ.out.below HB3.out, own := HO3.out, lst := World.ownsRow_nil _ _ _ _ }
 have HP3 := Lib.hid hP3
 clear hP3 hb3
 go_upto_if 17 with fail
 go_cut [6] from 7 (fun v wx => ∃ ps : List I2, ps.length ≤ 5000 ∧ PL wz (w.heap.size + 1) A bs c 30000 v (.slice none 0 0) [] ps wx)
 case first =>
  cases hg : goodLab l
  ·go_wp2_with fail
   go_meet
   case rel => exact ⟨[], by simp, HP3.out.mono (by omega)⟩
  ·obtain ⟨c0, c1⟩ := (HAT.out.below HB3.out).cells
   go_wp2_with fail
   (with_reducible refine (l11LastG_any _ l w3 hsm hg (HAT.out.below HB3.out).r).mono ?_)
   rintro e w4 ⟨r, rfl, hr, hb4⟩
   obtain ⟨AL, cL, rfl, hr⟩ := owns_form hr
   have hLn : (lastL l).length ≤ 40 := by rw [show (lastL l).length = _ from parts_len _ _]; exact (goodF_size hg).2
   generalize lastL l = LS at *
   have hs4 := hb4.size
   have HP4 := Lib.hid ({ HP3.out.lay hb4 with lst := owns_mono hr (by have := HB3.out.size; omega) } : PL wz (w.heap.size + 1) A bs c 1000 (.slice (some ⟨w1.heap.size + 1, 0, none⟩) 0 0) (.slice AL LS.length cL) LS [] w4)
   have hpz : w.heap.size + 1 < wz.heap.size := by omega
   clear c0 c1 hr hb4 hg
   go_wp2_with fail
   go_loopw [6, 8] (fun v i wr => ∃ (k : Nat) (ps : List I2), k ≤ LS.length ∧ i = .int .i64 k ∧ ps.length ≤ 40 * k ∧ PL wz (w.heap.size + 1) A bs c (1000 + 200 * k) v (.slice AL LS.length cL) LS ps wr)
    (fun _ i _ => LS.length - (intOf i).toNat)
   case atStart => exact ⟨0, [], Nat.zero_le _, rfl, by simp, HP4.out⟩
   case round =>
    obtain ⟨i, ps, hi, rfl, hpl, hP⟩ := hrel
    have HP := Lib.hid hP
    clear hP
    by_cases hlt : i < LS.length
    ·obtain ⟨Ai, ci, rfl, hown⟩ := owns_form HP.out.own
     clear hown
     go_wp2_with fail
     go_loopw [6, 9] (fun v j wr2 => ∃ (k : Nat) (qs : List I2), k ≤ LS.length ∧ j = .int .i64 k ∧ qs.length ≤ 40 * i + k ∧ PL wz (w.heap.size + 1) A bs c (1000 + 200 * i + 2 * k) v (.slice AL LS.length cL) LS qs wr2)
      (fun _ j _ => LS.length - (intOf j).toNat)
     case atStart => exact ⟨0, ps, Nat.zero_le _, rfl, by omega, HP.out⟩
     case round =>
      obtain ⟨k, qs, hk, rfl, hql, hQ⟩ := hrel
      have HQ := Lib.hid hQ
      clear hQ
      by_cases hlt2 : k < LS.length
      ·obtain ⟨Aq, cq, rfl, hown⟩ := owns_form HQ.out.own
       have hcl := Cells.of_owns HQ.out.lst
       obtain ⟨bL, oL, rfl, hcc⟩ := hcl.int hlt
       have ci := hcc i hlt
       have ck := hcc k hlt2
       have HCI := Lib.hid ci
       have HCK := Lib.hid ck
       have HCC := Lib.hid (show ∀ W, Kept (fun q => q = w.heap.size + 1) wr W → W.cell? ⟨bL, oL + i, none⟩ = some (.int .i64 (LS.getD i 0)) ∧ W.cell? ⟨bL, oL + k, none⟩ = some (.int .i64 (LS.getD k 0)) from fun W hW => by
        have h := Cells.of_owns (owns_kept HQ.out.lst hW (fun q hq e => by have := (HQ.out.lst.lt q hq).1; omega))
        obtain ⟨b2, o2, e, h2⟩ := h.int hlt
        cases e
        exact ⟨h2 i hlt, h2 k hlt2⟩)
       clear hown hcl hcc
       obtain ⟨KK, hKK⟩ : ∃ KK, KK = 1000 + 200 * i + 2 * k := ⟨_, rfl⟩
       rw [← hKK] at HQ
       have HKK := Lib.hid hKK
       have hKK1 : KK ≤ 20000 := by omega
       have hKK2 : KK ≤ 1000 + 200 * i + 2 * k := by omega
       clear hKK
       cases heq : (LS.getD i 0 == LS.getD k 0)
       ·generalize LS.getD i 0 = x at *
        generalize LS.getD k 0 = y at *
        go_upto_region 12 with fail
        refine wp_region_inv (by kernel_rfl) (fun L act W => act = ⟨#[Value.slice A bs.length c, undef, Value.pointer (some ⟨w.heap.size, 0, none⟩), Value.slice none 0 0, Value.pointer (some ⟨w.heap.size + 1, 0, none⟩), Value.pointer (some ⟨w1.heap.size, 0, none⟩), Value.slice Aq qs.length cq, Value.slice (some ⟨bL, oL, none⟩) LS.length cL, Value.int IntKind.i64 (i : Int), Value.int IntKind.i64 (k : Int), Value.slice A bs.length c, Value.agg #[Value.slice A bs.length c, Value.int IntKind.i64 0, Value.int IntKind.u64 0], Value.pointer (some ⟨w.heap.size + 1, 0, none⟩), Value.pointer (some ⟨w.heap.size + 1, 0, none⟩), Value.agg #[Value.slice AU l.shows.length cU, Value.slice AT l.steps.length cT], Value.slice (some ⟨w1.heap.size + 1, 0, none⟩) 0 0, Value.agg #[Value.slice AU l.shows.length cU, Value.slice AT l.steps.length cT], Value.bool true, Value.agg #[Value.slice AU l.shows.length cU, Value.slice AT l.steps.length cT], Value.slice (some ⟨bL, oL, none⟩) LS.length cL, Value.int IntKind.i64 (i : Int), Value.slice (some ⟨bL, oL, none⟩) LS.length cL, Value.int IntKind.i64 (LS.length : Int), Value.bool true, u24, u25, Value.int IntKind.i64 (k : Int), Value.slice (some ⟨bL, oL, none⟩) LS.length cL, Value.int IntKind.i64 (LS.length : Int), Value.bool true, u30, u31, bsel (L 0) (.slice (some ⟨bL, oL, none⟩) LS.length cL) (u32), bsel (L 1) (.int .i64 (i : Int)) (u33), bsel (L 2) (.pointer (some ⟨bL, oL + i, none⟩)) (u34), bsel (L 3) (.int .i64 x) (u35), bsel (L 4) (.slice (some ⟨bL, oL, none⟩) LS.length cL) (u36), bsel (L 5) (.int .i64 (k : Int)) (u37), bsel (L 6) (.pointer (some ⟨bL, oL + k, none⟩)) (u38), bsel (L 7) (.int .i64 y) (u39), bsel (L 8) (.bool false) (u40), bsel (L 9) (.bool false) (u41), bsel (L 10) (undef) (u42), bsel (L 11) (undef) (u43), bsel (L 12) (undef) (u44), bsel (L 13) (undef) (u45), bsel (L 14) (undef) (u46), bsel (L 15) (undef) (u47), bsel (L 16) (.bool false) (u48), u49, u50, u51, u52, u53, u54, undef, undef, undef, undef, undef, undef, undef, undef, undef, undef, undef, undef, undef, undef, undef, undef, undef], []⟩ ∧ Kept (fun q => q = w.heap.size + 1) wr W ∧ PL wz (w.heap.size + 1) A bs c KK (.slice Aq qs.length cq) (.slice (some ⟨bL, oL, none⟩) LS.length cL) LS qs W) ?h0 ?step ?fin
        case h0 => exact ⟨rfl, (Kept.refl _ _).below' ((Below.refl _ _).drew), HQ.out.lay ((Below.refl _ _).drew)⟩
        case step =>
         intro L act W q oo hJ hL ho hd K3 hK3
         obtain ⟨rfl, hF⟩ := hJ
         match q, ho with
         | 0, ho =>
          simp only [List.getElem?_toArray, List.getElem?_cons_zero, List.getElem?_cons_succ, Option.some.injEq] at ho
          subst ho
          simp [Region.binds] at hd
          try simp only [hd, bsel_t]
          have HF := Lib.hid hF
          clear hF
          go_simp
          exact hK3 _ _ ⟨by first | (simp [upd, bsel]; done) | simp [upd, bsel, hd], HF.out⟩
         | 1, ho =>
          simp only [List.getElem?_toArray, List.getElem?_cons_zero, List.getElem?_cons_succ, Option.some.injEq] at ho
          subst ho
          simp [Region.binds] at hd
          try simp only [hd, bsel_t]
          have HF := Lib.hid hF
          clear hF
          go_simp
          exact hK3 _ _ ⟨by first | (simp [upd, bsel]; done) | simp [upd, bsel, hd], HF.out⟩
         | 2, ho =>
          simp only [List.getElem?_toArray, List.getElem?_cons_zero, List.getElem?_cons_succ, Option.some.injEq] at ho
          subst ho
          simp [Region.binds] at hd
          try simp only [hd, bsel_t]
          have HF := Lib.hid hF
          clear hF
          go_simp
          exact hK3 _ _ ⟨by simp [upd, bsel, hd], HF.out⟩
         | 3, ho =>
          simp only [List.getElem?_toArray, List.getElem?_cons_zero, List.getElem?_cons_succ, Option.some.injEq] at ho
          subst ho
          simp [Region.binds] at hd
          have s0 := (HCC.out W hF.1).1
          try simp only [hd, bsel_t]
          have HF := Lib.hid hF
          clear hF
          go_simp
          exact hK3 _ _ ⟨by simp [upd, bsel, hd], HF.out⟩
         | 4, ho =>
          simp only [List.getElem?_toArray, List.getElem?_cons_zero, List.getElem?_cons_succ, Option.some.injEq] at ho
          subst ho
          simp [Region.binds] at hd
          try simp only [hd, bsel_t]
          have HF := Lib.hid hF
          clear hF
          go_simp
          exact hK3 _ _ ⟨by first | (simp [upd, bsel]; done) | simp [upd, bsel, hd], HF.out⟩
         | 5, ho =>
          simp only [List.getElem?_toArray, List.getElem?_cons_zero, List.getElem?_cons_succ, Option.some.injEq] at ho
          subst ho
          simp [Region.binds] at hd
          try simp only [hd, bsel_t]
          have HF := Lib.hid hF
          clear hF
          go_simp
          exact hK3 _ _ ⟨by first | (simp [upd, bsel]; done) | simp [upd, bsel, hd], HF.out⟩
         | 6, ho =>
          simp only [List.getElem?_toArray, List.getElem?_cons_zero, List.getElem?_cons_succ, Option.some.injEq] at ho
          subst ho
          simp [Region.binds] at hd
          try simp only [hd, bsel_t]
          have HF := Lib.hid hF
          clear hF
          go_simp
          exact hK3 _ _ ⟨by simp [upd, bsel, hd], HF.out⟩
         | 7, ho =>
          simp only [List.getElem?_toArray, List.getElem?_cons_zero, List.getElem?_cons_succ, Option.some.injEq] at ho
          subst ho
          simp [Region.binds] at hd
          have s1 := (HCC.out W hF.1).2
          try simp only [hd, bsel_t]
          have HF := Lib.hid hF
          clear hF
          go_simp
          exact hK3 _ _ ⟨by simp [upd, bsel, hd], HF.out⟩
         | 8, ho =>
          simp only [List.getElem?_toArray, List.getElem?_cons_zero, List.getElem?_cons_succ, Option.some.injEq] at ho
          subst ho
          simp [Region.binds] at hd
          try simp only [hd, bsel_t]
          have HF := Lib.hid hF
          clear hF
          go_simp
          exact hK3 _ _ ⟨by simp [upd, bsel, hd], HF.out⟩
         | 9, ho =>
          simp only [List.getElem?_toArray, List.getElem?_cons_zero, List.getElem?_cons_succ, Option.some.injEq] at ho
          subst ho
          simp [Region.binds] at hd
          try simp only [hd, bsel_t]
          have HF := Lib.hid hF
          clear hF
          go_simp
          exact hK3 _ _ ⟨by simp [upd, bsel, hd], HF.out⟩
         | 10, ho =>
          simp only [List.getElem?_toArray, List.getElem?_cons_zero, List.getElem?_cons_succ, Option.some.injEq] at ho
          subst ho
          simp [Region.binds] at hd
          try simp only [hd, bsel_t]
          have HF := Lib.hid hF
          clear hF
          go_simp
          exact hK3 _ _ ⟨by simp [upd, bsel, hd], HF.out⟩
         | 11, ho =>
          simp only [List.getElem?_toArray, List.getElem?_cons_zero, List.getElem?_cons_succ, Option.some.injEq] at ho
          subst ho
          simp [Region.binds] at hd
          try simp only [hd, bsel_t]
          have HF := Lib.hid hF
          clear hF
          go_simp
          exact hK3 _ _ ⟨by simp [upd, bsel, hd], HF.out⟩
         | 12, ho =>
          simp only [List.getElem?_toArray, List.getElem?_cons_zero, List.getElem?_cons_succ, Option.some.injEq] at ho
          subst ho
          simp [Region.binds] at hd
          try simp only [hd, bsel_t]
          have HF := Lib.hid hF
          clear hF
          go_simp
          exact hK3 _ _ ⟨by simp [upd, bsel, hd], HF.out⟩
         | 13, ho =>
          simp only [List.getElem?_toArray, List.getElem?_cons_zero, List.getElem?_cons_succ, Option.some.injEq] at ho
          subst ho
          simp [Region.binds] at hd
          try simp only [hd, bsel_t]
          have HF := Lib.hid hF
          clear hF
          go_simp
          exact hK3 _ _ ⟨by simp [upd, bsel, hd], HF.out⟩
         | 14, ho =>
          simp only [List.getElem?_toArray, List.getElem?_cons_zero, List.getElem?_cons_succ, Option.some.injEq] at ho
          subst ho
          simp [Region.binds] at hd
          try simp only [hd, bsel_t]
          have HF := Lib.hid hF
          clear hF
          go_simp
          exact hK3 _ _ ⟨by simp [upd, bsel, hd], HF.out⟩
         | 15, ho =>
          simp only [List.getElem?_toArray, List.getElem?_cons_zero, List.getElem?_cons_succ, Option.some.injEq] at ho
          subst ho
          simp [Region.binds] at hd
          try simp only [hd, bsel_t]
          have HF := Lib.hid hF
          clear hF
          go_simp
          exact hK3 _ _ ⟨by simp [upd, bsel, hd], HF.out⟩
         | 16, ho =>
          simp only [List.getElem?_toArray, List.getElem?_cons_zero, List.getElem?_cons_succ, Option.some.injEq] at ho
          subst ho
          simp [Region.binds] at hd
          try simp only [hd, bsel_t]
          have HF := Lib.hid hF
          clear hF
          go_simp
          exact hK3 _ _ ⟨by simp [upd, bsel, hd], HF.out⟩
         | q + 17, ho => simp at ho
        case fin =>
         intro L act W hJ hfin
         obtain ⟨rfl, hF⟩ := hJ
         have l0 : L 0 = true := by
          cases e : L 0
          ·have x := hfin 0 _ rfl e
           simp [Region.binds] at x
          ·rfl
         have l1 : L 1 = true := by
          cases e : L 1
          ·have x := hfin 1 _ rfl e
           simp [Region.binds, l0] at x
          ·rfl
         have l2 : L 2 = true := by
          cases e : L 2
          ·have x := hfin 2 _ rfl e
           simp [Region.binds, l0, l1] at x
          ·rfl
         have l3 : L 3 = true := by
          cases e : L 3
          ·have x := hfin 3 _ rfl e
           simp [Region.binds, l0, l1, l2] at x
          ·rfl
         have l4 : L 4 = true := by
          cases e : L 4
          ·have x := hfin 4 _ rfl e
           simp [Region.binds, l0, l1, l2, l3] at x
          ·rfl
         have l5 : L 5 = true := by
          cases e : L 5
          ·have x := hfin 5 _ rfl e
           simp [Region.binds, l0, l1, l2, l3, l4] at x
          ·rfl
         have l6 : L 6 = true := by
          cases e : L 6
          ·have x := hfin 6 _ rfl e
           simp [Region.binds, l0, l1, l2, l3, l4, l5] at x
          ·rfl
         have l7 : L 7 = true := by
          cases e : L 7
          ·have x := hfin 7 _ rfl e
           simp [Region.binds, l0, l1, l2, l3, l4, l5, l6] at x
          ·rfl
         have l8 : L 8 = true := by
          cases e : L 8
          ·have x := hfin 8 _ rfl e
           simp [Region.binds, l0, l1, l2, l3, l4, l5, l6, l7] at x
          ·rfl
         have l9 : L 9 = true := by
          cases e : L 9
          ·have x := hfin 9 _ rfl e
           simp [Region.binds, l0, l1, l2, l3, l4, l5, l6, l7, l8] at x
          ·rfl
         have l10 : L 10 = true := by
          cases e : L 10
          ·have x := hfin 10 _ rfl e
           simp [Region.binds, l0, l1, l2, l3, l4, l5, l6, l7, l8, l9] at x
          ·rfl
         have l11 : L 11 = true := by
          cases e : L 11
          ·have x := hfin 11 _ rfl e
           simp [Region.binds, l0, l1, l2, l3, l4, l5, l6, l7, l8, l9, l10] at x
          ·rfl
         have l12 : L 12 = true := by
          cases e : L 12
          ·have x := hfin 12 _ rfl e
           simp [Region.binds, l0, l1, l2, l3, l4, l5, l6, l7, l8, l9, l10, l11] at x
          ·rfl
         have l13 : L 13 = true := by
          cases e : L 13
          ·have x := hfin 13 _ rfl e
           simp [Region.binds, l0, l1, l2, l3, l4, l5, l6, l7, l8, l9, l10, l11, l12] at x
          ·rfl
         have l14 : L 14 = true := by
          cases e : L 14
          ·have x := hfin 14 _ rfl e
           simp [Region.binds, l0, l1, l2, l3, l4, l5, l6, l7, l8, l9, l10, l11, l12, l13] at x
          ·rfl
         have l15 : L 15 = true := by
          cases e : L 15
          ·have x := hfin 15 _ rfl e
           simp [Region.binds, l0, l1, l2, l3, l4, l5, l6, l7, l8, l9, l10, l11, l12, l13, l14] at x
          ·rfl
         have l16 : L 16 = true := by
          cases e : L 16
          ·have x := hfin 16 _ rfl e
           simp [Region.binds, l0, l1, l2, l3, l4, l5, l6, l7, l8, l9, l10, l11, l12, l13, l14, l15] at x
          ·rfl
         simp only [l0, l1, l2, l3, l4, l5, l6, l7, l8, l9, l10, l11, l12, l13, l14, l15, l16, bsel_t]
         have HX := Lib.hid hF.2
         clear hF hfin l0 l1 l2 l3 l4 l5 l6 l7 l8 l9 l10 l11 l12 l13 l14 l15 l16
         go_wp2_with fail
         go_roundw
         case rel => exact ⟨k + 1, qs, by omega, by go_num, by omega, HX.out.mono (by omega)⟩
         case measure => simp [intOf]; omega
       ·generalize LS.getD i 0 = x at *
        generalize LS.getD k 0 = y at *
        by_cases h3 : (3 : Int) < (i : Int)
        ·go_upto_region 12 with fail
         refine wp_region_inv (by kernel_rfl) (fun L act W => ∃ (b : Bool), act = ⟨#[Value.slice A bs.length c, undef, Value.pointer (some ⟨w.heap.size, 0, none⟩), Value.slice none 0 0, Value.pointer (some ⟨w.heap.size + 1, 0, none⟩), Value.pointer (some ⟨w1.heap.size, 0, none⟩), Value.slice Aq qs.length cq, Value.slice (some ⟨bL, oL, none⟩) LS.length cL, Value.int IntKind.i64 (i : Int), Value.int IntKind.i64 (k : Int), Value.slice A bs.length c, Value.agg #[Value.slice A bs.length c, Value.int IntKind.i64 0, Value.int IntKind.u64 0], Value.pointer (some ⟨w.heap.size + 1, 0, none⟩), Value.pointer (some ⟨w.heap.size + 1, 0, none⟩), Value.agg #[Value.slice AU l.shows.length cU, Value.slice AT l.steps.length cT], Value.slice (some ⟨w1.heap.size + 1, 0, none⟩) 0 0, Value.agg #[Value.slice AU l.shows.length cU, Value.slice AT l.steps.length cT], Value.bool true, Value.agg #[Value.slice AU l.shows.length cU, Value.slice AT l.steps.length cT], Value.slice (some ⟨bL, oL, none⟩) LS.length cL, Value.int IntKind.i64 (i : Int), Value.slice (some ⟨bL, oL, none⟩) LS.length cL, Value.int IntKind.i64 (LS.length : Int), Value.bool true, u24, u25, Value.int IntKind.i64 (k : Int), Value.slice (some ⟨bL, oL, none⟩) LS.length cL, Value.int IntKind.i64 (LS.length : Int), Value.bool true, u30, u31, bsel (L 0) (.slice (some ⟨bL, oL, none⟩) LS.length cL) (u32), bsel (L 1) (.int .i64 (i : Int)) (u33), bsel (L 2) (.pointer (some ⟨bL, oL + i, none⟩)) (u34), bsel (L 3) (.int .i64 x) (u35), bsel (L 4) (.slice (some ⟨bL, oL, none⟩) LS.length cL) (u36), bsel (L 5) (.int .i64 (k : Int)) (u37), bsel (L 6) (.pointer (some ⟨bL, oL + k, none⟩)) (u38), bsel (L 7) (.int .i64 y) (u39), bsel (L 8) (.bool true) (u40), bsel (L 9) (.bool true) (u41), bsel (L 10) (.pointer (some ⟨w.heap.size + 1, 0, none⟩)) (u42), bsel (L 11) (.bool b) (u43), bsel (L 12) (.bool b) (u44), bsel (L 13) (bsel b undef (.int .i64 (i : Int))) (u45), bsel (L 14) (bsel b undef (.bool true)) (u46), bsel (L 15) (.bool true) (u47), bsel (L 16) (.bool true) (u48), u49, u50, u51, u52, u53, u54, undef, undef, undef, undef, undef, undef, undef, undef, undef, undef, undef, undef, undef, undef, undef, undef, undef], []⟩ ∧ (L 12 = true → L 11 = true) ∧ (L 13 = true → L 11 = true) ∧ (L 14 = true → L 11 = true) ∧ (L 15 = true → L 11 = true) ∧ (L 16 = true → L 11 = true) ∧ Kept (fun q => q = w.heap.size + 1) wr W ∧ PL wz (w.heap.size + 1) A bs c (KK + 2 * (L 11).toNat) (.slice Aq qs.length cq) (.slice (some ⟨bL, oL, none⟩) LS.length cL) LS qs W) ?h0 ?step ?fin
         case h0 => exact ⟨false, rfl, fun h => absurd h Bool.false_ne_true, fun h => absurd h Bool.false_ne_true, fun h => absurd h Bool.false_ne_true, fun h => absurd h Bool.false_ne_true, fun h => absurd h Bool.false_ne_true, (Kept.refl _ _).below' ((Below.refl _ _).drew), HQ.out.lay ((Below.refl _ _).drew)⟩
         case step =>
          intro L act W q oo hJ hL ho hd K3 hK3
          obtain ⟨b, rfl, hI0, hI1, hI2, hI3, hI4, hF⟩ := hJ
          match q, ho with
          | 0, ho =>
           simp only [List.getElem?_toArray, List.getElem?_cons_zero, List.getElem?_cons_succ, Option.some.injEq] at ho
           subst ho
           simp [Region.binds] at hd
           try simp only [hd, bsel_t]
           have HF := Lib.hid hF
           clear hF
           have HQI0 := Lib.hid hI0
           clear hI0
           have HQI1 := Lib.hid hI1
           clear hI1
           have HQI2 := Lib.hid hI2
           clear hI2
           have HQI3 := Lib.hid hI3
           clear hI3
           have HQI4 := Lib.hid hI4
           clear hI4
           go_simp
           exact hK3 _ _ ⟨b, by first | (simp [upd, bsel]; done) | simp [upd, bsel, hd], by simpa [upd] using HQI0.out, by simpa [upd] using HQI1.out, by simpa [upd] using HQI2.out, by simpa [upd] using HQI3.out, by simpa [upd] using HQI4.out, HF.out⟩
          | 1, ho =>
           simp only [List.getElem?_toArray, List.getElem?_cons_zero, List.getElem?_cons_succ, Option.some.injEq] at ho
           subst ho
           simp [Region.binds] at hd
           try simp only [hd, bsel_t]
           have HF := Lib.hid hF
           clear hF
           have HQI0 := Lib.hid hI0
           clear hI0
           have HQI1 := Lib.hid hI1
           clear hI1
           have HQI2 := Lib.hid hI2
           clear hI2
           have HQI3 := Lib.hid hI3
           clear hI3
           have HQI4 := Lib.hid hI4
           clear hI4
           go_simp
           exact hK3 _ _ ⟨b, by first | (simp [upd, bsel]; done) | simp [upd, bsel, hd], by simpa [upd] using HQI0.out, by simpa [upd] using HQI1.out, by simpa [upd] using HQI2.out, by simpa [upd] using HQI3.out, by simpa [upd] using HQI4.out, HF.out⟩
          | 2, ho =>
           simp only [List.getElem?_toArray, List.getElem?_cons_zero, List.getElem?_cons_succ, Option.some.injEq] at ho
           subst ho
           simp [Region.binds] at hd
           try simp only [hd, bsel_t]
           have HF := Lib.hid hF
           clear hF
           have HQI0 := Lib.hid hI0
           clear hI0
           have HQI1 := Lib.hid hI1
           clear hI1
           have HQI2 := Lib.hid hI2
           clear hI2
           have HQI3 := Lib.hid hI3
           clear hI3
           have HQI4 := Lib.hid hI4
           clear hI4
           go_simp
           exact hK3 _ _ ⟨b, by simp [upd, bsel, hd], by simpa [upd] using HQI0.out, by simpa [upd] using HQI1.out, by simpa [upd] using HQI2.out, by simpa [upd] using HQI3.out, by simpa [upd] using HQI4.out, HF.out⟩
          | 3, ho =>
           simp only [List.getElem?_toArray, List.getElem?_cons_zero, List.getElem?_cons_succ, Option.some.injEq] at ho
           subst ho
           simp [Region.binds] at hd
           have s0 := (HCC.out W hF.1).1
           try simp only [hd, bsel_t]
           have HF := Lib.hid hF
           clear hF
           have HQI0 := Lib.hid hI0
           clear hI0
           have HQI1 := Lib.hid hI1
           clear hI1
           have HQI2 := Lib.hid hI2
           clear hI2
           have HQI3 := Lib.hid hI3
           clear hI3
           have HQI4 := Lib.hid hI4
           clear hI4
           go_simp
           exact hK3 _ _ ⟨b, by simp [upd, bsel, hd], by simpa [upd] using HQI0.out, by simpa [upd] using HQI1.out, by simpa [upd] using HQI2.out, by simpa [upd] using HQI3.out, by simpa [upd] using HQI4.out, HF.out⟩
          | 4, ho =>
           simp only [List.getElem?_toArray, List.getElem?_cons_zero, List.getElem?_cons_succ, Option.some.injEq] at ho
           subst ho
           simp [Region.binds] at hd
           try simp only [hd, bsel_t]
           have HF := Lib.hid hF
           clear hF
           have HQI0 := Lib.hid hI0
           clear hI0
           have HQI1 := Lib.hid hI1
           clear hI1
           have HQI2 := Lib.hid hI2
           clear hI2
           have HQI3 := Lib.hid hI3
           clear hI3
           have HQI4 := Lib.hid hI4
           clear hI4
           go_simp
           exact hK3 _ _ ⟨b, by first | (simp [upd, bsel]; done) | simp [upd, bsel, hd], by simpa [upd] using HQI0.out, by simpa [upd] using HQI1.out, by simpa [upd] using HQI2.out, by simpa [upd] using HQI3.out, by simpa [upd] using HQI4.out, HF.out⟩
          | 5, ho =>
           simp only [List.getElem?_toArray, List.getElem?_cons_zero, List.getElem?_cons_succ, Option.some.injEq] at ho
           subst ho
           simp [Region.binds] at hd
           try simp only [hd, bsel_t]
           have HF := Lib.hid hF
           clear hF
           have HQI0 := Lib.hid hI0
           clear hI0
           have HQI1 := Lib.hid hI1
           clear hI1
           have HQI2 := Lib.hid hI2
           clear hI2
           have HQI3 := Lib.hid hI3
           clear hI3
           have HQI4 := Lib.hid hI4
           clear hI4
           go_simp
           exact hK3 _ _ ⟨b, by first | (simp [upd, bsel]; done) | simp [upd, bsel, hd], by simpa [upd] using HQI0.out, by simpa [upd] using HQI1.out, by simpa [upd] using HQI2.out, by simpa [upd] using HQI3.out, by simpa [upd] using HQI4.out, HF.out⟩
          | 6, ho =>
           simp only [List.getElem?_toArray, List.getElem?_cons_zero, List.getElem?_cons_succ, Option.some.injEq] at ho
           subst ho
           simp [Region.binds] at hd
           try simp only [hd, bsel_t]
           have HF := Lib.hid hF
           clear hF
           have HQI0 := Lib.hid hI0
           clear hI0
           have HQI1 := Lib.hid hI1
           clear hI1
           have HQI2 := Lib.hid hI2
           clear hI2
           have HQI3 := Lib.hid hI3
           clear hI3
           have HQI4 := Lib.hid hI4
           clear hI4
           go_simp
           exact hK3 _ _ ⟨b, by simp [upd, bsel, hd], by simpa [upd] using HQI0.out, by simpa [upd] using HQI1.out, by simpa [upd] using HQI2.out, by simpa [upd] using HQI3.out, by simpa [upd] using HQI4.out, HF.out⟩
          | 7, ho =>
           simp only [List.getElem?_toArray, List.getElem?_cons_zero, List.getElem?_cons_succ, Option.some.injEq] at ho
           subst ho
           simp [Region.binds] at hd
           have s1 := (HCC.out W hF.1).2
           try simp only [hd, bsel_t]
           have HF := Lib.hid hF
           clear hF
           have HQI0 := Lib.hid hI0
           clear hI0
           have HQI1 := Lib.hid hI1
           clear hI1
           have HQI2 := Lib.hid hI2
           clear hI2
           have HQI3 := Lib.hid hI3
           clear hI3
           have HQI4 := Lib.hid hI4
           clear hI4
           go_simp
           exact hK3 _ _ ⟨b, by simp [upd, bsel, hd], by simpa [upd] using HQI0.out, by simpa [upd] using HQI1.out, by simpa [upd] using HQI2.out, by simpa [upd] using HQI3.out, by simpa [upd] using HQI4.out, HF.out⟩
          | 8, ho =>
           simp only [List.getElem?_toArray, List.getElem?_cons_zero, List.getElem?_cons_succ, Option.some.injEq] at ho
           subst ho
           simp [Region.binds] at hd
           try simp only [hd, bsel_t]
           have HF := Lib.hid hF
           clear hF
           have HQI0 := Lib.hid hI0
           clear hI0
           have HQI1 := Lib.hid hI1
           clear hI1
           have HQI2 := Lib.hid hI2
           clear hI2
           have HQI3 := Lib.hid hI3
           clear hI3
           have HQI4 := Lib.hid hI4
           clear hI4
           go_simp
           exact hK3 _ _ ⟨b, by simp [upd, bsel, hd], by simpa [upd] using HQI0.out, by simpa [upd] using HQI1.out, by simpa [upd] using HQI2.out, by simpa [upd] using HQI3.out, by simpa [upd] using HQI4.out, HF.out⟩
          | 9, ho =>
           simp only [List.getElem?_toArray, List.getElem?_cons_zero, List.getElem?_cons_succ, Option.some.injEq] at ho
           subst ho
           simp [Region.binds] at hd
           try simp only [hd, bsel_t]
           have HF := Lib.hid hF
           clear hF
           have HQI0 := Lib.hid hI0
           clear hI0
           have HQI1 := Lib.hid hI1
           clear hI1
           have HQI2 := Lib.hid hI2
           clear hI2
           have HQI3 := Lib.hid hI3
           clear hI3
           have HQI4 := Lib.hid hI4
           clear hI4
           go_simp
           exact hK3 _ _ ⟨b, by simp [upd, bsel, hd], by simpa [upd] using HQI0.out, by simpa [upd] using HQI1.out, by simpa [upd] using HQI2.out, by simpa [upd] using HQI3.out, by simpa [upd] using HQI4.out, HF.out⟩
          | 10, ho =>
           simp only [List.getElem?_toArray, List.getElem?_cons_zero, List.getElem?_cons_succ, Option.some.injEq] at ho
           subst ho
           simp [Region.binds] at hd
           try simp only [hd, bsel_t]
           have HF := Lib.hid hF
           clear hF
           have HQI0 := Lib.hid hI0
           clear hI0
           have HQI1 := Lib.hid hI1
           clear hI1
           have HQI2 := Lib.hid hI2
           clear hI2
           have HQI3 := Lib.hid hI3
           clear hI3
           have HQI4 := Lib.hid hI4
           clear hI4
           go_simp
           exact hK3 _ _ ⟨b, by simp [upd, bsel, hd], by simpa [upd] using HQI0.out, by simpa [upd] using HQI1.out, by simpa [upd] using HQI2.out, by simpa [upd] using HQI3.out, by simpa [upd] using HQI4.out, HF.out⟩
          | 11, ho =>
           simp only [List.getElem?_toArray, List.getElem?_cons_zero, List.getElem?_cons_succ, Option.some.injEq] at ho
           subst ho
           simp [Region.binds] at hd
           have hz0 : L 12 = false := by
            cases e : L 12
            ·rfl
            ·exact absurd (hI0 e) (by simp [hL])
           have hz1 : L 13 = false := by
            cases e : L 13
            ·rfl
            ·exact absurd (hI1 e) (by simp [hL])
           have hz2 : L 14 = false := by
            cases e : L 14
            ·rfl
            ·exact absurd (hI2 e) (by simp [hL])
           have hz3 : L 15 = false := by
            cases e : L 15
            ·rfl
            ·exact absurd (hI3 e) (by simp [hL])
           have hz4 : L 16 = false := by
            cases e : L 16
            ·rfl
            ·exact absurd (hI4 e) (by simp [hL])
           rw [hL] at hF
           simp only [hd, bsel_t]
           have HF := Lib.hid hF
           clear hF
           have HQI0 := Lib.hid hI0
           clear hI0
           have HQI1 := Lib.hid hI1
           clear hI1
           have HQI2 := Lib.hid hI2
           clear hI2
           have HQI3 := Lib.hid hI3
           clear hI3
           have HQI4 := Lib.hid hI4
           clear hI4
           go_simp
           go_at_call 79
           (with_reducible refine (one_any (w.heap.size + 1) A bs c KK 2 W (by simpa using HF.out.2.cur) (by omega) (by omega)).mono ?_)
           rintro e W' ⟨b', rfl, hC', hk'⟩
           have HF := Lib.hid (And.intro (HF.out.1.trans hk') (HF.out.2.draw hpz hk' (show Cur W' (w.heap.size + 1) A bs c (KK + 2 * true.toNat) from hC')))
           clear hC' hk'
           go_simp
           exact hK3 _ _ ⟨b', by simp [upd, bsel, hd, hz0, hz1, hz2, hz3, hz4], by simp [upd], by simp [upd], by simp [upd], by simp [upd], by simp [upd], by simpa [upd, hd] using HF.out⟩
          | 12, ho =>
           simp only [List.getElem?_toArray, List.getElem?_cons_zero, List.getElem?_cons_succ, Option.some.injEq] at ho
           subst ho
           simp [Region.binds] at hd
           try simp only [hd, bsel_t]
           have HF := Lib.hid hF
           clear hF
           have HQI0 := Lib.hid hI0
           clear hI0
           have HQI1 := Lib.hid hI1
           clear hI1
           have HQI2 := Lib.hid hI2
           clear hI2
           have HQI3 := Lib.hid hI3
           clear hI3
           have HQI4 := Lib.hid hI4
           clear hI4
           go_simp
           exact hK3 _ _ ⟨b, by simp [upd, bsel, hd], by simp [upd, hd], by simpa [upd] using HQI1.out, by simpa [upd] using HQI2.out, by simpa [upd] using HQI3.out, by simpa [upd] using HQI4.out, HF.out⟩
          | 13, ho =>
           simp only [List.getElem?_toArray, List.getElem?_cons_zero, List.getElem?_cons_succ, Option.some.injEq] at ho
           subst ho
           simp [Region.binds] at hd
           have d12 : L 12 = true := by simp [hd]
           have d11 : L 11 = true := hI0 d12
           rw [d11] at hF
           simp only [hd, bsel_t]
           have HF := Lib.hid hF
           clear hF
           have HQI0 := Lib.hid hI0
           have HQI1 := Lib.hid hI1
           have HQI2 := Lib.hid hI2
           have HQI3 := Lib.hid hI3
           have HQI4 := Lib.hid hI4
           clear hI0 hI1 hI2 hI3 hI4
           cases b
           ·simp only [d11, d12, hd, bsel_t, bsel]
            go_simp
            exact hK3 _ _ ⟨false, (by first | (simp [upd, bsel, d11]; done) | simp [upd, bsel, hd, d11]), (by simpa [upd] using HQI0.out), (by simp [upd, hd, d11]), (by simpa [upd] using HQI2.out), (by simpa [upd] using HQI3.out), (by simpa [upd] using HQI4.out), by simpa [upd, d11] using HF.out⟩
           ·simp only [d11, d12, hd, bsel_t, bsel]
            go_simp
            exact hK3 _ _ ⟨true, (by first | (simp [upd, bsel, d11]; done) | simp [upd, bsel, hd, d11]), (by simpa [upd] using HQI0.out), (by simp [upd, hd, d11]), (by simpa [upd] using HQI2.out), (by simpa [upd] using HQI3.out), (by simpa [upd] using HQI4.out), by simpa [upd, d11] using HF.out⟩
          | 14, ho =>
           simp only [List.getElem?_toArray, List.getElem?_cons_zero, List.getElem?_cons_succ, Option.some.injEq] at ho
           subst ho
           simp [Region.binds] at hd
           have d12 : L 12 = true := by simp [hd]
           have d11 : L 11 = true := hI0 d12
           rw [d11] at hF
           simp only [hd, bsel_t]
           have HF := Lib.hid hF
           clear hF
           have HQI0 := Lib.hid hI0
           have HQI1 := Lib.hid hI1
           have HQI2 := Lib.hid hI2
           have HQI3 := Lib.hid hI3
           have HQI4 := Lib.hid hI4
           clear hI0 hI1 hI2 hI3 hI4
           cases b
           ·simp only [d11, d12, hd, bsel_t, bsel]
            go_simp
            exact hK3 _ _ ⟨false, (by first | (simp [upd, bsel, d11]; done) | simp [upd, bsel, hd, d11]), (by simpa [upd] using HQI0.out), (by simpa [upd] using HQI1.out), (by simp [upd, hd, d11]), (by simpa [upd] using HQI3.out), (by simpa [upd] using HQI4.out), by simpa [upd, d11] using HF.out⟩
           ·simp only [d11, d12, hd, bsel_t, bsel]
            go_simp
            exact hK3 _ _ ⟨true, (by first | (simp [upd, bsel, d11]; done) | simp [upd, bsel, hd, d11]), (by simpa [upd] using HQI0.out), (by simpa [upd] using HQI1.out), (by simp [upd, hd, d11]), (by simpa [upd] using HQI3.out), (by simpa [upd] using HQI4.out), by simpa [upd, d11] using HF.out⟩
          | 15, ho =>
           simp only [List.getElem?_toArray, List.getElem?_cons_zero, List.getElem?_cons_succ, Option.some.injEq] at ho
           subst ho
           simp [Region.binds] at hd
           have d12 : L 12 = true := by simp [hd]
           have d11 : L 11 = true := hI0 d12
           rw [d11] at hF
           simp only [hd, bsel_t]
           have HF := Lib.hid hF
           clear hF
           have HQI0 := Lib.hid hI0
           have HQI1 := Lib.hid hI1
           have HQI2 := Lib.hid hI2
           have HQI3 := Lib.hid hI3
           have HQI4 := Lib.hid hI4
           clear hI0 hI1 hI2 hI3 hI4
           cases b
           ·simp only [d11, d12, hd, bsel_t, bsel]
            go_simp
            exact hK3 _ _ ⟨false, (by first | (simp [upd, bsel, d11]; done) | simp [upd, bsel, hd, d11]), (by simpa [upd] using HQI0.out), (by simpa [upd] using HQI1.out), (by simpa [upd] using HQI2.out), (by simp [upd, hd, d11]), (by simpa [upd] using HQI4.out), by simpa [upd, d11] using HF.out⟩
           ·simp only [d11, d12, hd, bsel_t, bsel]
            go_simp
            exact hK3 _ _ ⟨true, (by first | (simp [upd, bsel, d11]; done) | simp [upd, bsel, hd, d11]), (by simpa [upd] using HQI0.out), (by simpa [upd] using HQI1.out), (by simpa [upd] using HQI2.out), (by simp [upd, hd, d11]), (by simpa [upd] using HQI4.out), by simpa [upd, d11] using HF.out⟩
          | 16, ho =>
           simp only [List.getElem?_toArray, List.getElem?_cons_zero, List.getElem?_cons_succ, Option.some.injEq] at ho
           subst ho
           simp [Region.binds] at hd
           have d15 : L 15 = true := by simp [hd]
           have d11 : L 11 = true := hI3 d15
           rw [d11] at hF
           simp only [hd, bsel_t]
           have HF := Lib.hid hF
           clear hF
           have HQI0 := Lib.hid hI0
           have HQI1 := Lib.hid hI1
           have HQI2 := Lib.hid hI2
           have HQI3 := Lib.hid hI3
           have HQI4 := Lib.hid hI4
           clear hI0 hI1 hI2 hI3 hI4
           cases b
           ·simp only [d11, d15, hd, bsel_t, bsel]
            go_simp
            exact hK3 _ _ ⟨false, (by first | (simp [upd, bsel, d11]; done) | simp [upd, bsel, hd, d11]), (by simpa [upd] using HQI0.out), (by simpa [upd] using HQI1.out), (by simpa [upd] using HQI2.out), (by simpa [upd] using HQI3.out), (by simp [upd, hd, d11]), by simpa [upd, d11] using HF.out⟩
           ·simp only [d11, d15, hd, bsel_t, bsel]
            go_simp
            exact hK3 _ _ ⟨true, (by first | (simp [upd, bsel, d11]; done) | simp [upd, bsel, hd, d11]), (by simpa [upd] using HQI0.out), (by simpa [upd] using HQI1.out), (by simpa [upd] using HQI2.out), (by simpa [upd] using HQI3.out), (by simp [upd, hd, d11]), by simpa [upd, d11] using HF.out⟩
          | q + 17, ho => simp at ho
         case fin =>
          intro L act W hJ hfin
          obtain ⟨b, rfl, hI0, hI1, hI2, hI3, hI4, hF⟩ := hJ
          have l0 : L 0 = true := by
           cases e : L 0
           ·have x := hfin 0 _ rfl e
            simp [Region.binds] at x
           ·rfl
          have l1 : L 1 = true := by
           cases e : L 1
           ·have x := hfin 1 _ rfl e
            simp [Region.binds, l0] at x
           ·rfl
          have l2 : L 2 = true := by
           cases e : L 2
           ·have x := hfin 2 _ rfl e
            simp [Region.binds, l0, l1] at x
           ·rfl
          have l3 : L 3 = true := by
           cases e : L 3
           ·have x := hfin 3 _ rfl e
            simp [Region.binds, l0, l1, l2] at x
           ·rfl
          have l4 : L 4 = true := by
           cases e : L 4
           ·have x := hfin 4 _ rfl e
            simp [Region.binds, l0, l1, l2, l3] at x
           ·rfl
          have l5 : L 5 = true := by
           cases e : L 5
           ·have x := hfin 5 _ rfl e
            simp [Region.binds, l0, l1, l2, l3, l4] at x
           ·rfl
          have l6 : L 6 = true := by
           cases e : L 6
           ·have x := hfin 6 _ rfl e
            simp [Region.binds, l0, l1, l2, l3, l4, l5] at x
           ·rfl
          have l7 : L 7 = true := by
           cases e : L 7
           ·have x := hfin 7 _ rfl e
            simp [Region.binds, l0, l1, l2, l3, l4, l5, l6] at x
           ·rfl
          have l8 : L 8 = true := by
           cases e : L 8
           ·have x := hfin 8 _ rfl e
            simp [Region.binds, l0, l1, l2, l3, l4, l5, l6, l7] at x
           ·rfl
          have l9 : L 9 = true := by
           cases e : L 9
           ·have x := hfin 9 _ rfl e
            simp [Region.binds, l0, l1, l2, l3, l4, l5, l6, l7, l8] at x
           ·rfl
          have l10 : L 10 = true := by
           cases e : L 10
           ·have x := hfin 10 _ rfl e
            simp [Region.binds, l0, l1, l2, l3, l4, l5, l6, l7, l8, l9] at x
           ·rfl
          have l11 : L 11 = true := by
           cases e : L 11
           ·have x := hfin 11 _ rfl e
            simp [Region.binds, l0, l1, l2, l3, l4, l5, l6, l7, l8, l9, l10] at x
           ·rfl
          have l12 : L 12 = true := by
           cases e : L 12
           ·have x := hfin 12 _ rfl e
            simp [Region.binds, l0, l1, l2, l3, l4, l5, l6, l7, l8, l9, l10, l11] at x
           ·rfl
          have l13 : L 13 = true := by
           cases e : L 13
           ·have x := hfin 13 _ rfl e
            simp [Region.binds, l0, l1, l2, l3, l4, l5, l6, l7, l8, l9, l10, l11, l12] at x
           ·rfl
          have l14 : L 14 = true := by
           cases e : L 14
           ·have x := hfin 14 _ rfl e
            simp [Region.binds, l0, l1, l2, l3, l4, l5, l6, l7, l8, l9, l10, l11, l12, l13] at x
           ·rfl
          have l15 : L 15 = true := by
           cases e : L 15
           ·have x := hfin 15 _ rfl e
            simp [Region.binds, l0, l1, l2, l3, l4, l5, l6, l7, l8, l9, l10, l11, l12, l13, l14] at x
           ·rfl
          have l16 : L 16 = true := by
           cases e : L 16
           ·have x := hfin 16 _ rfl e
            simp [Region.binds, l0, l1, l2, l3, l4, l5, l6, l7, l8, l9, l10, l11, l12, l13, l14, l15] at x
           ·rfl
          simp only [l0, l1, l2, l3, l4, l5, l6, l7, l8, l9, l10, l11, l12, l13, l14, l15, l16, bsel_t]
          have HX := Lib.hid (show PL wz (w.heap.size + 1) A bs c (KK + 2) (.slice Aq qs.length cq) (.slice (some ⟨bL, oL, none⟩) LS.length cL) LS qs W from by have h := hF.2; rw [l11] at h; exact h)
          clear hF hfin hI0 hI1 hI2 hI3 hI4 l0 l1 l2 l3 l4 l5 l6 l7 l8 l9 l10 l11 l12 l13 l14 l15 l16
          have hbP := (Below.refl W.heap.size W).alloc (Nat.le_refl _) (.cells #[.int .i64 (i : Int), .int .i64 (k : Int)] 66)
          have HOW := Lib.hid HX.out.own
          go_wp2_with (at_builtin; refine wpList_app el_a2 rfl _ _ rfl wz.heap.size _ _ _ rfl HOW.out [.int .i64 (i : Int), .int .i64 (k : Int)] rfl rfl rfl (by intro u hu; simp at hu; rcases hu with rfl | rfl <;> rfl) (by omega) HX.out.k.size ?_; intro v3 w3 ho3 hk3 hm3)
          go_roundw
          case rel => exact ⟨k + 1, qs ++ [((i : Int), (k : Int))], by omega, by go_num, by simp; omega, (HX.out.app (x := ((i : Int), (k : Int))) hpz ho3 hk3).mono (by omega)⟩
          case measure => simp [intOf]; omega
        ·go_upto_region 12 with fail
         refine wp_region_inv (by kernel_rfl) (fun L act W => ∃ (b : Bool), act = ⟨#[Value.slice A bs.length c, undef, Value.pointer (some ⟨w.heap.size, 0, none⟩), Value.slice none 0 0, Value.pointer (some ⟨w.heap.size + 1, 0, none⟩), Value.pointer (some ⟨w1.heap.size, 0, none⟩), Value.slice Aq qs.length cq, Value.slice (some ⟨bL, oL, none⟩) LS.length cL, Value.int IntKind.i64 (i : Int), Value.int IntKind.i64 (k : Int), Value.slice A bs.length c, Value.agg #[Value.slice A bs.length c, Value.int IntKind.i64 0, Value.int IntKind.u64 0], Value.pointer (some ⟨w.heap.size + 1, 0, none⟩), Value.pointer (some ⟨w.heap.size + 1, 0, none⟩), Value.agg #[Value.slice AU l.shows.length cU, Value.slice AT l.steps.length cT], Value.slice (some ⟨w1.heap.size + 1, 0, none⟩) 0 0, Value.agg #[Value.slice AU l.shows.length cU, Value.slice AT l.steps.length cT], Value.bool true, Value.agg #[Value.slice AU l.shows.length cU, Value.slice AT l.steps.length cT], Value.slice (some ⟨bL, oL, none⟩) LS.length cL, Value.int IntKind.i64 (i : Int), Value.slice (some ⟨bL, oL, none⟩) LS.length cL, Value.int IntKind.i64 (LS.length : Int), Value.bool true, u24, u25, Value.int IntKind.i64 (k : Int), Value.slice (some ⟨bL, oL, none⟩) LS.length cL, Value.int IntKind.i64 (LS.length : Int), Value.bool true, u30, u31, bsel (L 0) (.slice (some ⟨bL, oL, none⟩) LS.length cL) (u32), bsel (L 1) (.int .i64 (i : Int)) (u33), bsel (L 2) (.pointer (some ⟨bL, oL + i, none⟩)) (u34), bsel (L 3) (.int .i64 x) (u35), bsel (L 4) (.slice (some ⟨bL, oL, none⟩) LS.length cL) (u36), bsel (L 5) (.int .i64 (k : Int)) (u37), bsel (L 6) (.pointer (some ⟨bL, oL + k, none⟩)) (u38), bsel (L 7) (.int .i64 y) (u39), bsel (L 8) (.bool true) (u40), bsel (L 9) (.bool true) (u41), bsel (L 10) (.pointer (some ⟨w.heap.size + 1, 0, none⟩)) (u42), bsel (L 11) (.bool b) (u43), bsel (L 12) (.bool b) (u44), bsel (L 13) (bsel b undef (.int .i64 (i : Int))) (u45), bsel (L 14) (bsel b undef (.bool false)) (u46), bsel (L 15) (.bool b) (u47), bsel (L 16) (.bool b) (u48), u49, u50, u51, u52, u53, u54, undef, undef, undef, undef, undef, undef, undef, undef, undef, undef, undef, undef, undef, undef, undef, undef, undef], []⟩ ∧ (L 12 = true → L 11 = true) ∧ (L 13 = true → L 11 = true) ∧ (L 14 = true → L 11 = true) ∧ (L 15 = true → L 11 = true) ∧ (L 16 = true → L 11 = true) ∧ Kept (fun q => q = w.heap.size + 1) wr W ∧ PL wz (w.heap.size + 1) A bs c (KK + 2 * (L 11).toNat) (.slice Aq qs.length cq) (.slice (some ⟨bL, oL, none⟩) LS.length cL) LS qs W) ?h0 ?step ?fin
         case h0 => exact ⟨false, rfl, fun h => absurd h Bool.false_ne_true, fun h => absurd h Bool.false_ne_true, fun h => absurd h Bool.false_ne_true, fun h => absurd h Bool.false_ne_true, fun h => absurd h Bool.false_ne_true, (Kept.refl _ _).below' ((Below.refl _ _).drew), HQ.out.lay ((Below.refl _ _).drew)⟩
         case step =>
          intro L act W q oo hJ hL ho hd K3 hK3
          obtain ⟨b, rfl, hI0, hI1, hI2, hI3, hI4, hF⟩ := hJ
          match q, ho with
          | 0, ho =>
           simp only [List.getElem?_toArray, List.getElem?_cons_zero, List.getElem?_cons_succ, Option.some.injEq] at ho
           subst ho
           simp [Region.binds] at hd
           try simp only [hd, bsel_t]
           have HF := Lib.hid hF
           clear hF
           have HQI0 := Lib.hid hI0
           clear hI0
           have HQI1 := Lib.hid hI1
           clear hI1
           have HQI2 := Lib.hid hI2
           clear hI2
           have HQI3 := Lib.hid hI3
           clear hI3
           have HQI4 := Lib.hid hI4
           clear hI4
           go_simp
           exact hK3 _ _ ⟨b, by first | (simp [upd, bsel]; done) | simp [upd, bsel, hd], by simpa [upd] using HQI0.out, by simpa [upd] using HQI1.out, by simpa [upd] using HQI2.out, by simpa [upd] using HQI3.out, by simpa [upd] using HQI4.out, HF.out⟩
          | 1, ho =>
           simp only [List.getElem?_toArray, List.getElem?_cons_zero, List.getElem?_cons_succ, Option.some.injEq] at ho
           subst ho
           simp [Region.binds] at hd
           try simp only [hd, bsel_t]
           have HF := Lib.hid hF
           clear hF
           have HQI0 := Lib.hid hI0
           clear hI0
           have HQI1 := Lib.hid hI1
           clear hI1
           have HQI2 := Lib.hid hI2
           clear hI2
           have HQI3 := Lib.hid hI3
           clear hI3
           have HQI4 := Lib.hid hI4
           clear hI4
           go_simp
           exact hK3 _ _ ⟨b, by first | (simp [upd, bsel]; done) | simp [upd, bsel, hd], by simpa [upd] using HQI0.out, by simpa [upd] using HQI1.out, by simpa [upd] using HQI2.out, by simpa [upd] using HQI3.out, by simpa [upd] using HQI4.out, HF.out⟩
          | 2, ho =>
           simp only [List.getElem?_toArray, List.getElem?_cons_zero, List.getElem?_cons_succ, Option.some.injEq] at ho
           subst ho
           simp [Region.binds] at hd
           try simp only [hd, bsel_t]
           have HF := Lib.hid hF
           clear hF
           have HQI0 := Lib.hid hI0
           clear hI0
           have HQI1 := Lib.hid hI1
           clear hI1
           have HQI2 := Lib.hid hI2
           clear hI2
           have HQI3 := Lib.hid hI3
           clear hI3
           have HQI4 := Lib.hid hI4
           clear hI4
           go_simp
           exact hK3 _ _ ⟨b, by simp [upd, bsel, hd], by simpa [upd] using HQI0.out, by simpa [upd] using HQI1.out, by simpa [upd] using HQI2.out, by simpa [upd] using HQI3.out, by simpa [upd] using HQI4.out, HF.out⟩
          | 3, ho =>
           simp only [List.getElem?_toArray, List.getElem?_cons_zero, List.getElem?_cons_succ, Option.some.injEq] at ho
           subst ho
           simp [Region.binds] at hd
           have s0 := (HCC.out W hF.1).1
           try simp only [hd, bsel_t]
           have HF := Lib.hid hF
           clear hF
           have HQI0 := Lib.hid hI0
           clear hI0
           have HQI1 := Lib.hid hI1
           clear hI1
           have HQI2 := Lib.hid hI2
           clear hI2
           have HQI3 := Lib.hid hI3
           clear hI3
           have HQI4 := Lib.hid hI4
           clear hI4
           go_simp
           exact hK3 _ _ ⟨b, by simp [upd, bsel, hd], by simpa [upd] using HQI0.out, by simpa [upd] using HQI1.out, by simpa [upd] using HQI2.out, by simpa [upd] using HQI3.out, by simpa [upd] using HQI4.out, HF.out⟩
          | 4, ho =>
           simp only [List.getElem?_toArray, List.getElem?_cons_zero, List.getElem?_cons_succ, Option.some.injEq] at ho
           subst ho
           simp [Region.binds] at hd
           try simp only [hd, bsel_t]
           have HF := Lib.hid hF
           clear hF
           have HQI0 := Lib.hid hI0
           clear hI0
           have HQI1 := Lib.hid hI1
           clear hI1
           have HQI2 := Lib.hid hI2
           clear hI2
           have HQI3 := Lib.hid hI3
           clear hI3
           have HQI4 := Lib.hid hI4
           clear hI4
           go_simp
           exact hK3 _ _ ⟨b, by first | (simp [upd, bsel]; done) | simp [upd, bsel, hd], by simpa [upd] using HQI0.out, by simpa [upd] using HQI1.out, by simpa [upd] using HQI2.out, by simpa [upd] using HQI3.out, by simpa [upd] using HQI4.out, HF.out⟩
          | 5, ho =>
           simp only [List.getElem?_toArray, List.getElem?_cons_zero, List.getElem?_cons_succ, Option.some.injEq] at ho
           subst ho
           simp [Region.binds] at hd
           try simp only [hd, bsel_t]
           have HF := Lib.hid hF
           clear hF
           have HQI0 := Lib.hid hI0
           clear hI0
           have HQI1 := Lib.hid hI1
           clear hI1
           have HQI2 := Lib.hid hI2
           clear hI2
           have HQI3 := Lib.hid hI3
           clear hI3
           have HQI4 := Lib.hid hI4
           clear hI4
           go_simp
           exact hK3 _ _ ⟨b, by first | (simp [upd, bsel]; done) | simp [upd, bsel, hd], by simpa [upd] using HQI0.out, by simpa [upd] using HQI1.out, by simpa [upd] using HQI2.out, by simpa [upd] using HQI3.out, by simpa [upd] using HQI4.out, HF.out⟩
          | 6, ho =>
           simp only [List.getElem?_toArray, List.getElem?_cons_zero, List.getElem?_cons_succ, Option.some.injEq] at ho
           subst ho
           simp [Region.binds] at hd
           try simp only [hd, bsel_t]
           have HF := Lib.hid hF
           clear hF
           have HQI0 := Lib.hid hI0
           clear hI0
           have HQI1 := Lib.hid hI1
           clear hI1
           have HQI2 := Lib.hid hI2
           clear hI2
           have HQI3 := Lib.hid hI3
           clear hI3
           have HQI4 := Lib.hid hI4
           clear hI4
           go_simp
           exact hK3 _ _ ⟨b, by simp [upd, bsel, hd], by simpa [upd] using HQI0.out, by simpa [upd] using HQI1.out, by simpa [upd] using HQI2.out, by simpa [upd] using HQI3.out, by simpa [upd] using HQI4.out, HF.out⟩
          | 7, ho =>
           simp only [List.getElem?_toArray, List.getElem?_cons_zero, List.getElem?_cons_succ, Option.some.injEq] at ho
           subst ho
           simp [Region.binds] at hd
           have s1 := (HCC.out W hF.1).2
           try simp only [hd, bsel_t]
           have HF := Lib.hid hF
           clear hF
           have HQI0 := Lib.hid hI0
           clear hI0
           have HQI1 := Lib.hid hI1
           clear hI1
           have HQI2 := Lib.hid hI2
           clear hI2
           have HQI3 := Lib.hid hI3
           clear hI3
           have HQI4 := Lib.hid hI4
           clear hI4
           go_simp
           exact hK3 _ _ ⟨b, by simp [upd, bsel, hd], by simpa [upd] using HQI0.out, by simpa [upd] using HQI1.out, by simpa [upd] using HQI2.out, by simpa [upd] using HQI3.out, by simpa [upd] using HQI4.out, HF.out⟩
          | 8, ho =>
           simp only [List.getElem?_toArray, List.getElem?_cons_zero, List.getElem?_cons_succ, Option.some.injEq] at ho
           subst ho
           simp [Region.binds] at hd
           try simp only [hd, bsel_t]
           have HF := Lib.hid hF
           clear hF
           have HQI0 := Lib.hid hI0
           clear hI0
           have HQI1 := Lib.hid hI1
           clear hI1
           have HQI2 := Lib.hid hI2
           clear hI2
           have HQI3 := Lib.hid hI3
           clear hI3
           have HQI4 := Lib.hid hI4
           clear hI4
           go_simp
           exact hK3 _ _ ⟨b, by simp [upd, bsel, hd], by simpa [upd] using HQI0.out, by simpa [upd] using HQI1.out, by simpa [upd] using HQI2.out, by simpa [upd] using HQI3.out, by simpa [upd] using HQI4.out, HF.out⟩
          | 9, ho =>
           simp only [List.getElem?_toArray, List.getElem?_cons_zero, List.getElem?_cons_succ, Option.some.injEq] at ho
           subst ho
           simp [Region.binds] at hd
           try simp only [hd, bsel_t]
           have HF := Lib.hid hF
           clear hF
           have HQI0 := Lib.hid hI0
           clear hI0
           have HQI1 := Lib.hid hI1
           clear hI1
           have HQI2 := Lib.hid hI2
           clear hI2
           have HQI3 := Lib.hid hI3
           clear hI3
           have HQI4 := Lib.hid hI4
           clear hI4
           go_simp
           exact hK3 _ _ ⟨b, by simp [upd, bsel, hd], by simpa [upd] using HQI0.out, by simpa [upd] using HQI1.out, by simpa [upd] using HQI2.out, by simpa [upd] using HQI3.out, by simpa [upd] using HQI4.out, HF.out⟩
          | 10, ho =>
           simp only [List.getElem?_toArray, List.getElem?_cons_zero, List.getElem?_cons_succ, Option.some.injEq] at ho
           subst ho
           simp [Region.binds] at hd
           try simp only [hd, bsel_t]
           have HF := Lib.hid hF
           clear hF
           have HQI0 := Lib.hid hI0
           clear hI0
           have HQI1 := Lib.hid hI1
           clear hI1
           have HQI2 := Lib.hid hI2
           clear hI2
           have HQI3 := Lib.hid hI3
           clear hI3
           have HQI4 := Lib.hid hI4
           clear hI4
           go_simp
           exact hK3 _ _ ⟨b, by simp [upd, bsel, hd], by simpa [upd] using HQI0.out, by simpa [upd] using HQI1.out, by simpa [upd] using HQI2.out, by simpa [upd] using HQI3.out, by simpa [upd] using HQI4.out, HF.out⟩
          | 11, ho =>
           simp only [List.getElem?_toArray, List.getElem?_cons_zero, List.getElem?_cons_succ, Option.some.injEq] at ho
           subst ho
           simp [Region.binds] at hd
           have hz0 : L 12 = false := by
            cases e : L 12
            ·rfl
            ·exact absurd (hI0 e) (by simp [hL])
           have hz1 : L 13 = false := by
            cases e : L 13
            ·rfl
            ·exact absurd (hI1 e) (by simp [hL])
           have hz2 : L 14 = false := by
            cases e : L 14
            ·rfl
            ·exact absurd (hI2 e) (by simp [hL])
           have hz3 : L 15 = false := by
            cases e : L 15
            ·rfl
            ·exact absurd (hI3 e) (by simp [hL])
           have hz4 : L 16 = false := by
            cases e : L 16
            ·rfl
            ·exact absurd (hI4 e) (by simp [hL])
           rw [hL] at hF
           simp only [hd, bsel_t]
           have HF := Lib.hid hF
           clear hF
           have HQI0 := Lib.hid hI0
           clear hI0
           have HQI1 := Lib.hid hI1
           clear hI1
           have HQI2 := Lib.hid hI2
           clear hI2
           have HQI3 := Lib.hid hI3
           clear hI3
           have HQI4 := Lib.hid hI4
           clear hI4
           go_simp
           go_at_call 79
           (with_reducible refine (one_any (w.heap.size + 1) A bs c KK 2 W (by simpa using HF.out.2.cur) (by omega) (by omega)).mono ?_)
           rintro e W' ⟨b', rfl, hC', hk'⟩
           have HF := Lib.hid (And.intro (HF.out.1.trans hk') (HF.out.2.draw hpz hk' (show Cur W' (w.heap.size + 1) A bs c (KK + 2 * true.toNat) from hC')))
           clear hC' hk'
           go_simp
           exact hK3 _ _ ⟨b', by simp [upd, bsel, hd, hz0, hz1, hz2, hz3, hz4], by simp [upd], by simp [upd], by simp [upd], by simp [upd], by simp [upd], by simpa [upd, hd] using HF.out⟩
          | 12, ho =>
           simp only [List.getElem?_toArray, List.getElem?_cons_zero, List.getElem?_cons_succ, Option.some.injEq] at ho
           subst ho
           simp [Region.binds] at hd
           try simp only [hd, bsel_t]
           have HF := Lib.hid hF
           clear hF
           have HQI0 := Lib.hid hI0
           clear hI0
           have HQI1 := Lib.hid hI1
           clear hI1
           have HQI2 := Lib.hid hI2
           clear hI2
           have HQI3 := Lib.hid hI3
           clear hI3
           have HQI4 := Lib.hid hI4
           clear hI4
           go_simp
           exact hK3 _ _ ⟨b, by simp [upd, bsel, hd], by simp [upd, hd], by simpa [upd] using HQI1.out, by simpa [upd] using HQI2.out, by simpa [upd] using HQI3.out, by simpa [upd] using HQI4.out, HF.out⟩
          | 13, ho =>
           simp only [List.getElem?_toArray, List.getElem?_cons_zero, List.getElem?_cons_succ, Option.some.injEq] at ho
           subst ho
           simp [Region.binds] at hd
           have d12 : L 12 = true := by simp [hd]
           have d11 : L 11 = true := hI0 d12
           rw [d11] at hF
           simp only [hd, bsel_t]
           have HF := Lib.hid hF
           clear hF
           have HQI0 := Lib.hid hI0
           have HQI1 := Lib.hid hI1
           have HQI2 := Lib.hid hI2
           have HQI3 := Lib.hid hI3
           have HQI4 := Lib.hid hI4
           clear hI0 hI1 hI2 hI3 hI4
           cases b
           ·simp only [d11, d12, hd, bsel_t, bsel]
            go_simp
            exact hK3 _ _ ⟨false, (by first | (simp [upd, bsel, d11]; done) | simp [upd, bsel, hd, d11]), (by simpa [upd] using HQI0.out), (by simp [upd, hd, d11]), (by simpa [upd] using HQI2.out), (by simpa [upd] using HQI3.out), (by simpa [upd] using HQI4.out), by simpa [upd, d11] using HF.out⟩
           ·simp only [d11, d12, hd, bsel_t, bsel]
            go_simp
            exact hK3 _ _ ⟨true, (by first | (simp [upd, bsel, d11]; done) | simp [upd, bsel, hd, d11]), (by simpa [upd] using HQI0.out), (by simp [upd, hd, d11]), (by simpa [upd] using HQI2.out), (by simpa [upd] using HQI3.out), (by simpa [upd] using HQI4.out), by simpa [upd, d11] using HF.out⟩
          | 14, ho =>
           simp only [List.getElem?_toArray, List.getElem?_cons_zero, List.getElem?_cons_succ, Option.some.injEq] at ho
           subst ho
           simp [Region.binds] at hd
           have d12 : L 12 = true := by simp [hd]
           have d11 : L 11 = true := hI0 d12
           rw [d11] at hF
           simp only [hd, bsel_t]
           have HF := Lib.hid hF
           clear hF
           have HQI0 := Lib.hid hI0
           have HQI1 := Lib.hid hI1
           have HQI2 := Lib.hid hI2
           have HQI3 := Lib.hid hI3
           have HQI4 := Lib.hid hI4
           clear hI0 hI1 hI2 hI3 hI4
           cases b
           ·simp only [d11, d12, hd, bsel_t, bsel]
            go_simp
            exact hK3 _ _ ⟨false, (by first | (simp [upd, bsel, d11]; done) | simp [upd, bsel, hd, d11]), (by simpa [upd] using HQI0.out), (by simpa [upd] using HQI1.out), (by simp [upd, hd, d11]), (by simpa [upd] using HQI3.out), (by simpa [upd] using HQI4.out), by simpa [upd, d11] using HF.out⟩
           ·simp only [d11, d12, hd, bsel_t, bsel]
            go_simp
            exact hK3 _ _ ⟨true, (by first | (simp [upd, bsel, d11]; done) | simp [upd, bsel, hd, d11]), (by simpa [upd] using HQI0.out), (by simpa [upd] using HQI1.out), (by simp [upd, hd, d11]), (by simpa [upd] using HQI3.out), (by simpa [upd] using HQI4.out), by simpa [upd, d11] using HF.out⟩
          | 15, ho =>
           simp only [List.getElem?_toArray, List.getElem?_cons_zero, List.getElem?_cons_succ, Option.some.injEq] at ho
           subst ho
           simp [Region.binds] at hd
           have d12 : L 12 = true := by simp [hd]
           have d11 : L 11 = true := hI0 d12
           rw [d11] at hF
           simp only [hd, bsel_t]
           have HF := Lib.hid hF
           clear hF
           have HQI0 := Lib.hid hI0
           have HQI1 := Lib.hid hI1
           have HQI2 := Lib.hid hI2
           have HQI3 := Lib.hid hI3
           have HQI4 := Lib.hid hI4
           clear hI0 hI1 hI2 hI3 hI4
           cases b
           ·simp only [d11, d12, hd, bsel_t, bsel]
            go_simp
            exact hK3 _ _ ⟨false, (by first | (simp [upd, bsel, d11]; done) | simp [upd, bsel, hd, d11]), (by simpa [upd] using HQI0.out), (by simpa [upd] using HQI1.out), (by simpa [upd] using HQI2.out), (by simp [upd, hd, d11]), (by simpa [upd] using HQI4.out), by simpa [upd, d11] using HF.out⟩
           ·simp only [d11, d12, hd, bsel_t, bsel]
            go_simp
            exact hK3 _ _ ⟨true, (by first | (simp [upd, bsel, d11]; done) | simp [upd, bsel, hd, d11]), (by simpa [upd] using HQI0.out), (by simpa [upd] using HQI1.out), (by simpa [upd] using HQI2.out), (by simp [upd, hd, d11]), (by simpa [upd] using HQI4.out), by simpa [upd, d11] using HF.out⟩
          | 16, ho =>
           simp only [List.getElem?_toArray, List.getElem?_cons_zero, List.getElem?_cons_succ, Option.some.injEq] at ho
           subst ho
           simp [Region.binds] at hd
           have d15 : L 15 = true := by simp [hd]
           have d11 : L 11 = true := hI3 d15
           rw [d11] at hF
           simp only [hd, bsel_t]
           have HF := Lib.hid hF
           clear hF
           have HQI0 := Lib.hid hI0
           have HQI1 := Lib.hid hI1
           have HQI2 := Lib.hid hI2
           have HQI3 := Lib.hid hI3
           have HQI4 := Lib.hid hI4
           clear hI0 hI1 hI2 hI3 hI4
           cases b
           ·simp only [d11, d15, hd, bsel_t, bsel]
            go_simp
            exact hK3 _ _ ⟨false, (by first | (simp [upd, bsel, d11]; done) | simp [upd, bsel, hd, d11]), (by simpa [upd] using HQI0.out), (by simpa [upd] using HQI1.out), (by simpa [upd] using HQI2.out), (by simpa [upd] using HQI3.out), (by simp [upd, hd, d11]), by simpa [upd, d11] using HF.out⟩
           ·simp only [d11, d15, hd, bsel_t, bsel]
            go_simp
            exact hK3 _ _ ⟨true, (by first | (simp [upd, bsel, d11]; done) | simp [upd, bsel, hd, d11]), (by simpa [upd] using HQI0.out), (by simpa [upd] using HQI1.out), (by simpa [upd] using HQI2.out), (by simpa [upd] using HQI3.out), (by simp [upd, hd, d11]), by simpa [upd, d11] using HF.out⟩
          | q + 17, ho => simp at ho
         case fin =>
          intro L act W hJ hfin
          obtain ⟨b, rfl, hI0, hI1, hI2, hI3, hI4, hF⟩ := hJ
          have l0 : L 0 = true := by
           cases e : L 0
           ·have x := hfin 0 _ rfl e
            simp [Region.binds] at x
           ·rfl
          have l1 : L 1 = true := by
           cases e : L 1
           ·have x := hfin 1 _ rfl e
            simp [Region.binds, l0] at x
           ·rfl
          have l2 : L 2 = true := by
           cases e : L 2
           ·have x := hfin 2 _ rfl e
            simp [Region.binds, l0, l1] at x
           ·rfl
          have l3 : L 3 = true := by
           cases e : L 3
           ·have x := hfin 3 _ rfl e
            simp [Region.binds, l0, l1, l2] at x
           ·rfl
          have l4 : L 4 = true := by
           cases e : L 4
           ·have x := hfin 4 _ rfl e
            simp [Region.binds, l0, l1, l2, l3] at x
           ·rfl
          have l5 : L 5 = true := by
           cases e : L 5
           ·have x := hfin 5 _ rfl e
            simp [Region.binds, l0, l1, l2, l3, l4] at x
           ·rfl
          have l6 : L 6 = true := by
           cases e : L 6
           ·have x := hfin 6 _ rfl e
            simp [Region.binds, l0, l1, l2, l3, l4, l5] at x
           ·rfl
          have l7 : L 7 = true := by
           cases e : L 7
           ·have x := hfin 7 _ rfl e
            simp [Region.binds, l0, l1, l2, l3, l4, l5, l6] at x
           ·rfl
          have l8 : L 8 = true := by
           cases e : L 8
           ·have x := hfin 8 _ rfl e
            simp [Region.binds, l0, l1, l2, l3, l4, l5, l6, l7] at x
           ·rfl
          have l9 : L 9 = true := by
           cases e : L 9
           ·have x := hfin 9 _ rfl e
            simp [Region.binds, l0, l1, l2, l3, l4, l5, l6, l7, l8] at x
           ·rfl
          have l10 : L 10 = true := by
           cases e : L 10
           ·have x := hfin 10 _ rfl e
            simp [Region.binds, l0, l1, l2, l3, l4, l5, l6, l7, l8, l9] at x
           ·rfl
          have l11 : L 11 = true := by
           cases e : L 11
           ·have x := hfin 11 _ rfl e
            simp [Region.binds, l0, l1, l2, l3, l4, l5, l6, l7, l8, l9, l10] at x
           ·rfl
          have l12 : L 12 = true := by
           cases e : L 12
           ·have x := hfin 12 _ rfl e
            simp [Region.binds, l0, l1, l2, l3, l4, l5, l6, l7, l8, l9, l10, l11] at x
           ·rfl
          have l13 : L 13 = true := by
           cases e : L 13
           ·have x := hfin 13 _ rfl e
            simp [Region.binds, l0, l1, l2, l3, l4, l5, l6, l7, l8, l9, l10, l11, l12] at x
           ·rfl
          have l14 : L 14 = true := by
           cases e : L 14
           ·have x := hfin 14 _ rfl e
            simp [Region.binds, l0, l1, l2, l3, l4, l5, l6, l7, l8, l9, l10, l11, l12, l13] at x
           ·rfl
          have l15 : L 15 = true := by
           cases e : L 15
           ·have x := hfin 15 _ rfl e
            simp [Region.binds, l0, l1, l2, l3, l4, l5, l6, l7, l8, l9, l10, l11, l12, l13, l14] at x
           ·rfl
          have l16 : L 16 = true := by
           cases e : L 16
           ·have x := hfin 16 _ rfl e
            simp [Region.binds, l0, l1, l2, l3, l4, l5, l6, l7, l8, l9, l10, l11, l12, l13, l14, l15] at x
           ·rfl
          simp only [l0, l1, l2, l3, l4, l5, l6, l7, l8, l9, l10, l11, l12, l13, l14, l15, l16, bsel_t]
          have HX := Lib.hid (show PL wz (w.heap.size + 1) A bs c (KK + 2) (.slice Aq qs.length cq) (.slice (some ⟨bL, oL, none⟩) LS.length cL) LS qs W from by have h := hF.2; rw [l11] at h; exact h)
          clear hF hfin hI0 hI1 hI2 hI3 hI4 l0 l1 l2 l3 l4 l5 l6 l7 l8 l9 l10 l11 l12 l13 l14 l15 l16
          cases b
          ·go_wp2_with fail
           go_roundw
           case rel => exact ⟨k + 1, qs, by omega, by go_num, by omega, HX.out.mono (by omega)⟩
           case measure => simp [intOf]; omega
          ·have hbP := (Below.refl W.heap.size W).alloc (Nat.le_refl _) (.cells #[.int .i64 (i : Int), .int .i64 (k : Int)] 66)
           have HOW := Lib.hid HX.out.own
           go_wp2_with (at_builtin; refine wpList_app el_a2 rfl _ _ rfl wz.heap.size _ _ _ rfl HOW.out [.int .i64 (i : Int), .int .i64 (k : Int)] rfl rfl rfl (by intro u hu; simp at hu; rcases hu with rfl | rfl <;> rfl) (by omega) HX.out.k.size ?_; intro v3 w3 ho3 hk3 hm3)
           go_roundw
           case rel => exact ⟨k + 1, qs ++ [((i : Int), (k : Int))], by omega, by go_num, by simp; omega, (HX.out.app (x := ((i : Int), (k : Int))) hpz ho3 hk3).mono (by omega)⟩
           case measure => simp [intOf]; omega
      ·obtain rfl : k = LS.length := by omega
       go_wp2_with fail
       go_roundw
       case rel => exact ⟨i + 1, qs, by omega, by go_num, by omega, HQ.out.mono (by omega)⟩
       case measure => simp [intOf]; omega
    ·obtain rfl : i = LS.length := by omega
     go_wp2_with fail
     go_meet
     case rel => exact ⟨ps, by omega, { HP.out.mono (show 1000 + 200 * LS.length ≤ 30000 by omega) with lst := World.ownsRow_nil _ _ _ _ }⟩
 case rest =>
  obtain ⟨ps, hpl, hP⟩ := hcut
  obtain ⟨Av, cv, rfl, hown⟩ := owns_form hP.own
  have hpz : w.heap.size + 1 < wz.heap.size := by omega
  have HP := Lib.hid hP
  clear hP hown
  go_wp2_with fail
  (with_reducible refine (one_any (w.heap.size + 1) A bs c 30000 6 wc HP.out.cur (by omega) (by omega)).mono ?_)
  rintro e w5 ⟨b, rfl, hC5, hK5⟩
  have HP5 := Lib.hid (HP.out.draw hpz hK5 hC5)
  clear hC5 hK5
  have HBX := Lib.hid (show ∀ W, Kept (fun q => q = w.heap.size + 1) wz W → W.heap[w1.heap.size]? = some (.cells #[.slice AU l.shows.length cU, .slice AT l.steps.length cT] 27) from fun W hW => (hW.block _ (by omega) (by omega)).trans HAT.out.box)
  go_upto_if 56 with fail
  go_cut [6] from 7 (fun v wx => ∃ qs : List I2, qs.length ≤ 6000 ∧ PL wz (w.heap.size + 1) A bs c 40000 v (.slice none 0 0) [] qs wx)
  case first =>
   cases b
   ·go_wp2_with fail
    go_meet
    case rel => exact ⟨ps, by omega, HP5.out.mono (by omega)⟩
   ·have c0 := cell_of_row w5 _ 0 _ _ _ (HBX.out w5 HP5.out.k)
    have hn60 := hz.a
    go_wp2_with fail
    (with_reducible refine (l1MostD_any 1 (l.shows.length : Int) _).mono ?_)
    rintro e w6 ⟨rfl, rfl⟩
    obtain ⟨n, hn, hn1, hn2⟩ : ∃ n : Nat, (if (l.shows.length : Int) < 1 then (1 : Int) else (l.shows.length : Int)) = (n : Int) ∧ 1 ≤ n ∧ n ≤ 60 := by
     split
     ·exact ⟨1, rfl, by omega, by omega⟩
     ·exact ⟨l.shows.length, rfl, by omega, hn60⟩
    rw [hn]
    clear hn c0
    go_wp2_with fail
    (with_reducible refine (pick_any (w.heap.size + 1) A bs c 30002 (n : Int) _ HP5.out.cur (by omega) (by omega)).mono ?_)
    rintro e w7 ⟨z, rfl, hz0, hz1, hC7, hK7⟩
    have HP7 := Lib.hid (HP5.out.draw hpz hK7 hC7)
    clear hC7 hK7
    have hb8 := (Below.refl w7.heap.size w7).alloc (Nat.le_refl _) (.cells (ints [0, 1, -1, 40]).toArray 3)
    have h8 := among_any (w.heap.size + 1) A bs c _ (some ⟨w7.heap.size, 0, none⟩) 4 [0, 1, -1, 40] _ (HP7.out.cur.below hb8) (by omega) (by simp) (by simp) (cells_of_heap (heap_alloc_new _ _)) (fun b' o' e => by cases e; have := HP7.out.k.size; omega)
    have H8 := Lib.hid (show Calls Tryz.prog 104 #[.pointer (some ⟨w.heap.size + 1, 0, none⟩), .slice (some ⟨w7.heap.size, 0, none⟩) 4 4] (w7.alloc (.cells #[.int .i64 0, .int .i64 1, .int .i64 (-1), .int .i64 40] 3)) _ from h8)
    have HB8 := Lib.hid (show Below w7.heap.size w7 (w7.alloc (.cells #[.int .i64 0, .int .i64 1, .int .i64 (-1), .int .i64 40] 3)) from hb8)
    clear h8 hb8
    go_wp2_with fail
    (with_reducible refine H8.out.mono ?_)
    rintro e w9 ⟨y, rfl, hy, hC9, hK9⟩
    have HP9 := Lib.hid ((HP7.out.lay HB8.out).draw hpz hK9 hC9)
    have HOW := Lib.hid HP9.out.own
    clear hC9 hK9 hy
    go_wp2_with (at_builtin; refine wpList_app el_a2 rfl _ _ rfl wz.heap.size _ _ _ rfl HOW.out [.int .i64 z, .int .i64 y] rfl rfl rfl (by intro u hu; simp at hu; rcases hu with rfl | rfl <;> rfl) (by omega) HP9.out.k.size ?_; intro v3 w3' ho3 hk3 hm3)
    go_meet
    case rel => exact ⟨ps ++ [(z, y)], by simp; omega, (HP9.out.app (x := (z, y)) hpz ho3 hk3).mono (by omega)⟩
  case rest =>
   obtain ⟨qs, hql, hQ⟩ := hcut
   obtain ⟨Aq, cq, rfl, hown⟩ := owns_form hQ.own
   have HQ := Lib.hid hQ
   have hbq := HBX.out _ hQ.k
   have s0 := cell_of_row _ _ 0 _ _ _ hbq
   have s1 := cell_of_row _ _ 1 _ _ _ hbq
   have hr := (hQ.k.block w.heap.size (by omega) (by omega)).trans ((HKZ.out.block w.heap.size (by omega) (by omega)).trans HX0.out)
   have f0 := frozen_of_row _ _ 0 _ _ hr
   have f1 := frozen_of_row _ _ 1 _ _ hr
   have g0 := cell_of_row _ _ 0 _ _ _ hr
   have g1 := cell_of_row _ _ 1 _ _ _ hr
   have HR := Lib.hid hr
   clear hQ hown hbq hr
   go_wp2_with fail
   obtain ⟨hend, hk2⟩ := box_put (.slice AU l.shows.length cU) (.slice AT l.steps.length cT) HR.out
   (try simp only [Exit.inBlock, Exit.then])
   refine bodyPost_ret (results_cell_row2 rfl _ _ w.heap.size _ #[.slice AU l.shows.length cU, .slice AT l.steps.length cT] _ _ rfl hend Tryz.underlying27 rfl (by kernel_rfl)) rfl ?_
   have hKK := (HQ.out.k.mono (fun q hq => Or.inl hq) : Kept (fun q => q = w.heap.size + 1 ∨ q = w.heap.size) _ _).trans (hk2.mono fun q hq => Or.inr hq)
   have hown := owns_kept HQ.out.own hk2 (fun q hq e => by have := (HQ.out.own.lt q hq).1; omega)
   refine ⟨_, _, _, qs, rfl, (HDZ.out.kept hKK (fun q hq => by omega)).low (by omega), ⟨Aq, cq, rfl, by unfold maxLen; omega, Cells.of_owns hown⟩, by omega, ?_⟩
   exact (HB0.out.trans (HKZ.out.below (B := w.heap.size) (fun q hq => by omega) (by omega))).trans (hKK.below (B := w.heap.size) (fun q hq => by omega) (by omega))

end Go.Proofs.YtdgnhfhaaghoaaaGreatDoor
