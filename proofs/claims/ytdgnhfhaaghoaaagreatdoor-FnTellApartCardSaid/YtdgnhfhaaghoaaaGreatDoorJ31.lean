/- The reference's first step of a state that none of another one answers: walked. -/
import Derived.Test.YtdgnhfhaaghoaaaGreatDoorProg
import Derived.Test.YtdgnhfhaaghoaaaGreatDoorJ10
import Derived.Test.YtdgnhfhaaghoaaaGreatDoorJ20
import Derived.Test.YtdgnhfhaaghoaaaGreatDoorJ26
import Derived.Test.YtdgnhfhaaghoaaaGreatDoorJ2
import Derived.Test.YtdgnhfhaaghoaaaGreatDoorJ8
set_option linter.unusedSimpArgs false
set_option linter.unusedVariables false
namespace Go.Proofs.YtdgnhfhaaghoaaaGreatDoor
open Go.RowKit

theorem box2_cells {w : World} {b : Nat} {x y : Value} {t : TypeId} (h : w.heap[b]? = some (.cells #[x, y] t)) : w.cell? ⟨b, 0, none⟩ = some x ∧ w.cell? ⟨b, 1, none⟩ = some y := ⟨cell_of_row _ _ _ _ _ _ h, cell_of_row _ _ _ _ _ _ h⟩

/-- The facts of the region that asks whether a step is answered: the ends (b10), their parts (b11). -/
structure LF (wr : World) (os ps : List Int) (b10 b11 : Bool) (r10 r11 : Value) (W : World) : Prop where
  z : Below wr.heap.size wr W
  h10 : b10 = true → ∃ A c, r10 = .slice A os.length c ∧ Cells W A (ints os)
  h11 : b11 = true → ∃ A c, r11 = .slice A ps.length c ∧ Cells W A (ints ps)
section
variable {wr W W' : World} {os ps : List Int} {b10 b11 : Bool} {r10 r11 : Value}
theorem LF.start (r10 r11 : Value) : LF wr os ps false false r10 r11 wr.drew := { z := (Below.refl _ _).drew, h10 := fun h => (nomatch h), h11 := fun h => (nomatch h) }
theorem LF.below (h : LF wr os ps b10 b11 r10 r11 W) (hb : Below W.heap.size W W') : LF wr os ps b10 b11 r10 r11 W' :=
  { z := h.z.trans (hb.mono h.z.size), h10 := fun e => by obtain ⟨A, c, h1, h2⟩ := h.h10 e; exact ⟨A, c, h1, h2.below hb⟩, h11 := fun e => by obtain ⟨A, c, h1, h2⟩ := h.h11 e; exact ⟨A, c, h1, h2.below hb⟩ }
theorem LF.next {r : Value} {B : Nat} (h : LF wr os ps false b11 r10 r11 W) (hb : Below W.heap.size W W') (hr : W'.ownsRow B 3 1 r os.length (ints os)) : LF wr os ps true b11 r r11 W' :=
  { h.below hb with h10 := fun _ => by obtain ⟨A, c, rfl, h1⟩ := owns_form hr; exact ⟨A, c, rfl, Cells.of_owns h1⟩ }
theorem LF.parts {r : Value} {B : Nat} (h : LF wr os ps b10 false r10 r11 W) (hb : Below W.heap.size W W') (hr : W'.ownsRow B 3 1 r ps.length (ints ps)) : LF wr os ps b10 true r10 r W' :=
  { h.below hb with h11 := fun _ => by obtain ⟨A, c, rfl, h1⟩ := owns_form hr; exact ⟨A, c, rfl, Cells.of_owns h1⟩ }
end

set_option maxRecDepth 100000 in
set_option maxHeartbeats 8000000 in
theorem l11Lonely_any (v : Value) (l : Lab) (A : Option Addr) (c : Nat) (parts : List Int) (s t : Nat) (w : World) (hs : SmallLab l) (hsl : l.steps.length ≤ 1000000) (hst : StepsN l.shows.length l.steps) (hpl : parts.length = l.shows.length) (hn1 : 1 ≤ l.shows.length) (hn : l.shows.length ≤ 40) (hv : RLab w v l) (hA : Cells w A (ints parts)) :
    Calls Tryz.prog 136 #[v, .slice A l.shows.length c, .int .i64 s, .int .i64 t] w fun e w' => e = .returned (.int .i64 (idxR l.steps.length (fun q => lonelyB l.steps parts s t (l.steps.getD q (0, 0, 0))))) ∧ Below w.heap.size w w' := by
  obtain ⟨p, hp⟩ : ∃ p : Nat → Bool, p = fun q => lonelyB l.steps parts s t (l.steps.getD q (0, 0, 0)) := ⟨_, rfl⟩
  rw [← hp]
  have HP := Lib.hid (fun q => show p q = lonelyB l.steps parts s t (l.steps.getD q (0, 0, 0)) from by rw [hp])
  have HV := Lib.hid (show ∀ W, Below w.heap.size w W → RLab W v l from fun W hb => hv.below hb)
  obtain ⟨pb, po, rfl, _⟩ := hA.int (k := 0) (by omega)
  have HPC := Lib.hid (show ∀ W, Below w.heap.size w W → ∀ j, j < parts.length → W.cell? ⟨pb, po + j, none⟩ = some (.int .i64 (parts.getD j 0)) from fun W hb j hj => by
    obtain ⟨b', o', e, hc⟩ := (hA.below hb).int hj
    cases e
    exact hc j hj)
  have HAA := Lib.hid (show ∀ W, Below w.heap.size w W → Cells W (some ⟨pb, po, none⟩) (ints parts) from fun W hb => hA.below hb)
  obtain ⟨sv, tv, rfl, hsv, htv⟩ := hv
  obtain ⟨B, d, rfl, _, _⟩ := id htv
  have HTV := Lib.hid (show ∀ W, Below w.heap.size w W → RA3 W (.slice B l.steps.length d) l.steps from fun W hb => htv.below hb)
  obtain ⟨W0, hW0⟩ : ∃ W0, W0 = w.alloc (.cells #[sv, .slice B l.steps.length d] 27) := ⟨_, rfl⟩
  have hz0 : Below w.heap.size w W0 := by rw [hW0]; exact (Below.refl _ _).alloc (Nat.le_refl _) _
  have hs0 : W0.heap.size = w.heap.size + 1 := by rw [hW0]; simp
  have bx0 : W0.heap[w.heap.size]? = some (.cells #[sv, .slice B l.steps.length d] 27) := by rw [hW0]; exact heap_alloc_new _ _
  have HX := Lib.hid (show ∀ W, Below W0.heap.size W0 W → W.cell? ⟨w.heap.size, 0, none⟩ = some sv ∧ W.cell? ⟨w.heap.size, 1, none⟩ = some (.slice B l.steps.length d) from fun W hW => box2_cells ((hW.block _ (by omega)).trans bx0))
  have HZ0 := Lib.hid hz0
  have HW0 := Lib.hid hW0
  have HSM := Lib.hid hs
  have HST := Lib.hid hst
  clear hsv htv hA bx0 hp hW0 hz0 hs hst
  go_enter Tryz.func136, Tryz.ntmps136
  go_wp2_with fail
  rw [← HW0.out]
  go_loopw [9] (fun i wr => ∃ k : Nat, k ≤ l.steps.length ∧ i = .int .i64 k ∧ NoB p k ∧ Below W0.heap.size W0 wr) (fun i _ => l.steps.length - (intOf i).toNat)
  case atStart => exact ⟨0, Nat.zero_le _, rfl, fun j hj => by omega, Below.refl _ _⟩
  case round =>
    obtain ⟨k, hk, rfl, hno, hbel⟩ := hrel
    obtain ⟨x0, x1⟩ := HX.out wr hbel
    have hbw : Below w.heap.size w wr := HZ0.out.trans (hbel.mono HZ0.out.size)
    have hsz := hbel.size
    by_cases hlt : k < l.steps.length
    · obtain ⟨bD, oD, c', e, h0, h1, h2⟩ := (HTV.out wr hbw).at_ (List.getElem?_eq_getElem hlt)
      cases e
      have hgd : l.steps.getD k (0, 0, 0) = l.steps[k] := by simp [List.getD, hlt]
      obtain ⟨xn, zn, hx, hz2, hxn, hzn⟩ := HST.out _ (List.getElem_mem hlt)
      have HNX := Lib.hid (fun (h : p k = false) => none_next hno h)
      have HSO := Lib.hid (fun (h : p k = true) => idxR_some hlt hno h)
      have hpk := HP.out k
      rw [hgd] at hpk
      rw [hz2] at h2
      obtain ⟨W4, hW4⟩ : ∃ W4, W4 = wr.alloc (.cells #[.int .i64 l.steps[k].1, .int .i64 l.steps[k].2.1, .int .i64 (zn : Int)] 103) := ⟨_, rfl⟩
      have hb4 : Below wr.heap.size wr W4 := by rw [hW4]; exact (Below.refl _ _).alloc (Nat.le_refl _) _
      have bx4 : W4.heap[wr.heap.size]? = some (.cells #[.int .i64 l.steps[k].1, .int .i64 l.steps[k].2.1, .int .i64 (zn : Int)] 103) := by rw [hW4]; exact heap_alloc_new _ _
      have hlt4 : wr.heap.size < W4.heap.size := by rw [hW4]; simp
      have HBX := Lib.hid (show ∀ W, Below W4.heap.size W4 W → W.cell? ⟨wr.heap.size, 0, none⟩ = some (.int .i64 l.steps[k].1) ∧ W.cell? ⟨wr.heap.size, 1, none⟩ = some (.int .i64 l.steps[k].2.1) ∧ W.cell? ⟨wr.heap.size, 2, none⟩ = some (.int .i64 (zn : Int)) from fun W hW => by
        have := (hW.block _ hlt4).trans bx4
        exact ⟨cell_of_row _ _ _ _ _ _ this, cell_of_row _ _ _ _ _ _ this, cell_of_row _ _ _ _ _ _ this⟩)
      have HB4 := Lib.hid (hbel.trans (hb4.mono hsz))
      obtain ⟨g0, g1, g2⟩ := HBX.out W4 (Below.refl _ _)
      obtain ⟨y0, y1⟩ := HX.out W4 HB4.out
      have hat : atP parts (zn : Int) = parts.getD zn 0 := by unfold atP; rw [Int.toNat_natCast]
      have hlone : lonelyB l.steps parts s t l.steps[k] = ((l.steps[k].1 == (s : Int)) && !(hasI (setOf l.steps parts (t : Int) l.steps[k].2.1) (parts.getD zn 0))) := by
        rw [← hat, ← hz2]; rfl
      rw [hlone] at hpk
      have r0 : (0 : Int) ≤ (k : Int) := by omega
      have r1 : (k : Int) < (l.steps.length : Int) := by omega
      have hnl : (nextA l.steps (t : Int) l.steps[k].2.1).length ≤ l.steps.length := nextA_all _ _ _
      have hin : ∀ y ∈ nextA l.steps (t : Int) l.steps[k].2.1, ∃ i : Nat, y = (i : Int) ∧ i < parts.length := fun y hy => by
        unfold nextA at hy
        rw [List.mem_map] at hy
        obtain ⟨u, hu, rfl⟩ := hy
        obtain ⟨_, i, _, h2, _, h4⟩ := HST.out u (List.mem_filter.1 hu).1
        exact ⟨i, h2, by omega⟩
      have HIN := Lib.hid hin
      clear hno hbel hbw hb4 bx4 hgd hx hin hlone hat
      cases h00 : (l.steps[k].1 == (s : Int))
      · have HN := Lib.hid (HNX.out (by rw [hpk, h00]; rfl))
        rw [hW4] at g0 g1 g2 y0 y1
        have HW4 := Lib.hid hW4
        clear hpk HSO HNX
        generalize l.steps[k] = x at *
        clear hW4
        go_wp2_with fail
        go_quiet (fail)
        have HB5 := Lib.hid (below_drewN' (show Below W0.heap.size W0 (wr.alloc (.cells #[.int .i64 x.1, .int .i64 x.2.1, .int .i64 (zn : Int)] 103)) from by rw [← HW4.out]; exact HB4.out) nq)
        go_wp2_with fail
        go_roundw
        case rel => exact ⟨k + 1, by omega, by go_num, HN.out, HB5.out⟩
        case measure => simp [intOf]; omega
      · obtain ⟨hb, hhb⟩ : ∃ hb, hb = hasI (setOf l.steps parts (t : Int) l.steps[k].2.1) (parts.getD zn 0) := ⟨_, rfl⟩
        have HPK := Lib.hid (show p k = !hb from by rw [hpk, h00, hhb]; rfl)
        have HBW4 := Lib.hid (HZ0.out.trans (HB4.out.mono HZ0.out.size))
        have HNEXT := Lib.hid (show ∀ W, Below w.heap.size w W → Calls Tryz.prog 137 #[.agg #[sv, .slice (some ⟨bD, oD, none⟩) l.steps.length d], .int .i64 t, .int .i64 l.steps[k].2.1] W (fun e w' => ∃ r, e = .returned r ∧ w'.ownsRow W.heap.size 3 1 r (nextA l.steps (t : Int) l.steps[k].2.1).length (ints (nextA l.steps (t : Int) l.steps[k].2.1)) ∧ Below W.heap.size W w') from fun W hW => l11Next_any _ l _ _ W HSM.out (HV.out W hW))
        have HPARTS := Lib.hid (show ∀ W, Below w.heap.size w W → ∀ A1 d1, Cells W A1 (ints (nextA l.steps (t : Int) l.steps[k].2.1)) → Calls Tryz.prog 174 #[.slice (some ⟨pb, po, none⟩) l.shows.length c, .slice A1 (nextA l.steps (t : Int) l.steps[k].2.1).length d1] W (fun e w' => ∃ r, e = .returned r ∧ OwnR w' W.heap.size r (setOf l.steps parts (t : Int) l.steps[k].2.1) ∧ Below W.heap.size W w') from fun W hW A1 d1 hC => by
          rw [← hpl]
          exact l11Parts_any _ A1 c d1 parts _ W (by omega) (by omega) HIN.out (HAA.out W hW) hC)
        have hsl2 : (setOf l.steps parts (t : Int) l.steps[k].2.1).length ≤ l.steps.length := by
          have := foldP_len parts (nextA l.steps (t : Int) l.steps[k].2.1) (nextA l.steps (t : Int) l.steps[k].2.1).length
          rw [List.take_length] at this
          exact Nat.le_trans this hnl
        have HHAS := Lib.hid (show ∀ W A1 d1, Cells W A1 (ints (setOf l.steps parts (t : Int) l.steps[k].2.1)) → Calls Tryz.prog 151 #[.slice A1 (setOf l.steps parts (t : Int) l.steps[k].2.1).length d1, .int .i64 (parts.getD zn 0)] W (fun e w' => e = .returned (.bool hb) ∧ W = w') from fun W A1 d1 hC => by
          rw [hhb]
          exact l1Has_any A1 d1 _ _ W (by omega) hC)
        have q0 : (0 : Int) ≤ (zn : Int) := by omega
        have q1 : (zn : Int) < (l.shows.length : Int) := by omega
        rw [hW4] at g0 g1 g2 y0 y1
        have HW4 := Lib.hid hW4
        have hs4 := HB4.out.size
        clear hpk hhb hW4
        generalize setOf l.steps parts (t : Int) l.steps[k].2.1 = ps at *
        generalize nextA l.steps (t : Int) l.steps[k].2.1 = os at *
        generalize hyy : parts.getD zn 0 = y at *
        have HPY := Lib.hid (show ∀ W, Below w.heap.size w W → W.cell? ⟨pb, po + zn, none⟩ = some (.int .i64 y) from fun W hW => by rw [← hyy]; exact HPC.out W hW zn (by omega))
        generalize l.steps[k] = x at *
        clear hyy
        go_wp2_with fail
        rw [← HW4.out]
        clear g0 g1 g2 y0 y1
        refine wp_region_inv (by kernel_rfl) (fun L act W => ∃ (r10 r11 : Value), act = ⟨#[Value.agg #[sv, Value.slice (some ⟨bD, oD, none⟩) l.steps.length d], Value.slice (some ⟨pb, po, none⟩) l.shows.length c, Value.int IntKind.i64 (s : Int), Value.int IntKind.i64 (t : Int), Value.pointer (some ⟨w.heap.size, 0, none⟩), undef, undef, undef, u8, Value.int IntKind.i64 (k : Int), Value.pointer (some ⟨wr.heap.size, 0, none⟩), Value.int IntKind.i64 (k : Int), Value.pointer (some ⟨w.heap.size, 1, none⟩), Value.slice (some ⟨bD, oD, none⟩) l.steps.length d, Value.int IntKind.i64 (l.steps.length : Int), Value.bool true, u16, u17, Value.pointer (some ⟨w.heap.size, 1, none⟩), Value.slice (some ⟨bD, oD, none⟩) l.steps.length d, Value.int IntKind.i64 (k : Int), Value.pointer (some ⟨bD, oD + k * 3, none⟩), Value.agg #[Value.int IntKind.i64 x.fst, Value.int IntKind.i64 x.snd.fst, Value.int IntKind.i64 (zn : Int)], bsel (L 0) (.pointer (some ⟨wr.heap.size, 0, none⟩)) (u23), bsel (L 1) (.int .i64 x.1) (u24), bsel (L 2) (.int .i64 (s : Int)) (u25), bsel (L 3) (.bool true) (u26), bsel (L 4) (.bool true) (u27), bsel (L 5) (.slice (some ⟨pb, po, none⟩) l.shows.length c) (u28), bsel (L 6) (.agg #[sv, .slice (some ⟨bD, oD, none⟩) l.steps.length d]) (u29), bsel (L 7) (.int .i64 (t : Int)) (u30), bsel (L 8) (.pointer (some ⟨wr.heap.size, 1, none⟩)) (u31), bsel (L 9) (.int .i64 x.2.1) (u32), bsel (L 10) (r10) (u33), bsel (L 11) (r11) (u34), bsel (L 12) (.slice (some ⟨pb, po, none⟩) l.shows.length c) (u35), bsel (L 13) (.pointer (some ⟨wr.heap.size, 2, none⟩)) (u36), bsel (L 14) (.int .i64 (zn : Int)) (u37), bsel (L 15) (.pointer (some ⟨pb, po + zn, none⟩)) (u38), bsel (L 16) (.int .i64 y) (u39), bsel (L 17) (.bool hb) (u40), bsel (L 18) (.bool (!hb)) (u41), bsel (L 19) (.bool (!hb)) (u42), u43], []⟩ ∧ LF W4 os ps (L 10) (L 11) r10 r11 W) ?h0 ?step ?fin
        case h0 => exact ⟨.bool false, .bool false, rfl, LF.start _ _⟩
        case step =>
          intro L act W q o hJ hL ho hd K3 hK3
          obtain ⟨r10, r11, rfl, hF⟩ := hJ
          match q, ho with
          | 0, ho =>
            simp only [List.getElem?_toArray, List.getElem?_cons_zero, List.getElem?_cons_succ, Option.some.injEq] at ho
            subst ho
            simp [Region.binds] at hd
            try simp only [hd, bsel_t]
            have HF := Lib.hid hF
            clear hF
            go_simp
            exact hK3 _ _ ⟨r10, r11, by simp [upd, bsel], HF.out⟩
          | 1, ho =>
            simp only [List.getElem?_toArray, List.getElem?_cons_zero, List.getElem?_cons_succ, Option.some.injEq] at ho
            subst ho
            simp [Region.binds] at hd
            obtain ⟨g0, g1, g2⟩ := HBX.out W hF.z
            obtain ⟨y0, y1⟩ := HX.out W (HB4.out.trans (hF.z.mono HB4.out.size))
            try simp only [hd, bsel_t]
            have HF := Lib.hid hF
            clear hF
            go_simp
            exact hK3 _ _ ⟨r10, r11, by simp [upd, bsel, hd], HF.out⟩
          | 2, ho =>
            simp only [List.getElem?_toArray, List.getElem?_cons_zero, List.getElem?_cons_succ, Option.some.injEq] at ho
            subst ho
            simp [Region.binds] at hd
            try simp only [hd, bsel_t]
            have HF := Lib.hid hF
            clear hF
            go_simp
            exact hK3 _ _ ⟨r10, r11, by simp [upd, bsel], HF.out⟩
          | 3, ho =>
            simp only [List.getElem?_toArray, List.getElem?_cons_zero, List.getElem?_cons_succ, Option.some.injEq] at ho
            subst ho
            simp [Region.binds] at hd
            try simp only [hd, bsel_t]
            have HF := Lib.hid hF
            clear hF
            go_simp
            exact hK3 _ _ ⟨r10, r11, by simp [upd, bsel, hd], HF.out⟩
          | 4, ho =>
            simp only [List.getElem?_toArray, List.getElem?_cons_zero, List.getElem?_cons_succ, Option.some.injEq] at ho
            subst ho
            simp [Region.binds] at hd
            try simp only [hd, bsel_t]
            have HF := Lib.hid hF
            clear hF
            go_simp
            exact hK3 _ _ ⟨r10, r11, by simp [upd, bsel, hd], HF.out⟩
          | 5, ho =>
            simp only [List.getElem?_toArray, List.getElem?_cons_zero, List.getElem?_cons_succ, Option.some.injEq] at ho
            subst ho
            simp [Region.binds] at hd
            try simp only [hd, bsel_t]
            have HF := Lib.hid hF
            clear hF
            go_simp
            exact hK3 _ _ ⟨r10, r11, by simp [upd, bsel, hd], HF.out⟩
          | 6, ho =>
            simp only [List.getElem?_toArray, List.getElem?_cons_zero, List.getElem?_cons_succ, Option.some.injEq] at ho
            subst ho
            simp [Region.binds] at hd
            obtain ⟨g0, g1, g2⟩ := HBX.out W hF.z
            obtain ⟨y0, y1⟩ := HX.out W (HB4.out.trans (hF.z.mono HB4.out.size))
            try simp only [hd, bsel_t]
            have HF := Lib.hid hF
            clear hF
            go_simp
            exact hK3 _ _ ⟨r10, r11, by simp [upd, bsel, hd], HF.out⟩
          | 7, ho =>
            simp only [List.getElem?_toArray, List.getElem?_cons_zero, List.getElem?_cons_succ, Option.some.injEq] at ho
            subst ho
            simp [Region.binds] at hd
            try simp only [hd, bsel_t]
            have HF := Lib.hid hF
            clear hF
            go_simp
            exact hK3 _ _ ⟨r10, r11, by simp [upd, bsel, hd], HF.out⟩
          | 8, ho =>
            simp only [List.getElem?_toArray, List.getElem?_cons_zero, List.getElem?_cons_succ, Option.some.injEq] at ho
            subst ho
            simp [Region.binds] at hd
            try simp only [hd, bsel_t]
            have HF := Lib.hid hF
            clear hF
            go_simp
            exact hK3 _ _ ⟨r10, r11, by simp [upd, bsel, hd], HF.out⟩
          | 9, ho =>
            simp only [List.getElem?_toArray, List.getElem?_cons_zero, List.getElem?_cons_succ, Option.some.injEq] at ho
            subst ho
            simp [Region.binds] at hd
            obtain ⟨g0, g1, g2⟩ := HBX.out W hF.z
            obtain ⟨y0, y1⟩ := HX.out W (HB4.out.trans (hF.z.mono HB4.out.size))
            try simp only [hd, bsel_t]
            have HF := Lib.hid hF
            clear hF
            go_simp
            exact hK3 _ _ ⟨r10, r11, by simp [upd, bsel, hd], HF.out⟩
          | 10, ho =>
            simp only [List.getElem?_toArray, List.getElem?_cons_zero, List.getElem?_cons_succ, Option.some.injEq] at ho
            subst ho
            simp [Region.binds] at hd
            rw [hL] at hF
            simp only [hd, bsel_t]
            have HF := Lib.hid hF
            clear hF
            go_simp
            go_at_call 137
            (with_reducible refine (HNEXT.out W (HBW4.out.trans (HF.out.z.mono HBW4.out.size))).mono ?_)
            rintro e W' ⟨r, rfl, hr, hb1⟩
            have HF := Lib.hid (HF.out.next hb1 hr)
            clear hr hb1
            go_simp
            exact hK3 _ _ ⟨r, r11, by simp [upd, bsel, hd], by simpa [upd, hd] using HF.out⟩
          | 11, ho =>
            simp only [List.getElem?_toArray, List.getElem?_cons_zero, List.getElem?_cons_succ, Option.some.injEq] at ho
            subst ho
            simp [Region.binds] at hd
            have d10 : L 10 = true := by simp [hd]
            rw [d10, hL] at hF
            obtain ⟨A1, d1, rfl, h10⟩ := hF.h10 rfl
            simp only [hd, bsel_t]
            have HF := Lib.hid hF
            clear hF
            go_simp
            go_at_call 174
            (with_reducible refine (HPARTS.out W (HBW4.out.trans (HF.out.z.mono HBW4.out.size)) A1 d1 h10).mono ?_)
            rintro e W' ⟨r, rfl, hr, hb1⟩
            have HF := Lib.hid (HF.out.parts hb1 hr.1)
            clear hr hb1 h10
            go_simp
            exact hK3 _ _ ⟨.slice A1 os.length d1, r, by simp [upd, bsel, hd], by simpa [upd, hd] using HF.out⟩
          | 12, ho =>
            simp only [List.getElem?_toArray, List.getElem?_cons_zero, List.getElem?_cons_succ, Option.some.injEq] at ho
            subst ho
            simp [Region.binds] at hd
            try simp only [hd, bsel_t]
            have HF := Lib.hid hF
            clear hF
            go_simp
            exact hK3 _ _ ⟨r10, r11, by simp [upd, bsel, hd], HF.out⟩
          | 13, ho =>
            simp only [List.getElem?_toArray, List.getElem?_cons_zero, List.getElem?_cons_succ, Option.some.injEq] at ho
            subst ho
            simp [Region.binds] at hd
            try simp only [hd, bsel_t]
            have HF := Lib.hid hF
            clear hF
            go_simp
            exact hK3 _ _ ⟨r10, r11, by simp [upd, bsel, hd], HF.out⟩
          | 14, ho =>
            simp only [List.getElem?_toArray, List.getElem?_cons_zero, List.getElem?_cons_succ, Option.some.injEq] at ho
            subst ho
            simp [Region.binds] at hd
            obtain ⟨g0, g1, g2⟩ := HBX.out W hF.z
            obtain ⟨y0, y1⟩ := HX.out W (HB4.out.trans (hF.z.mono HB4.out.size))
            try simp only [hd, bsel_t]
            have HF := Lib.hid hF
            clear hF
            go_simp
            exact hK3 _ _ ⟨r10, r11, by simp [upd, bsel, hd], HF.out⟩
          | 15, ho =>
            simp only [List.getElem?_toArray, List.getElem?_cons_zero, List.getElem?_cons_succ, Option.some.injEq] at ho
            subst ho
            simp [Region.binds] at hd
            try simp only [hd, bsel_t]
            have HF := Lib.hid hF
            clear hF
            go_simp
            exact hK3 _ _ ⟨r10, r11, by simp [upd, bsel, hd], HF.out⟩
          | 16, ho =>
            simp only [List.getElem?_toArray, List.getElem?_cons_zero, List.getElem?_cons_succ, Option.some.injEq] at ho
            subst ho
            simp [Region.binds] at hd
            have hpy := HPY.out W (HBW4.out.trans (hF.z.mono HBW4.out.size))
            try simp only [hd, bsel_t]
            have HF := Lib.hid hF
            clear hF
            go_simp
            exact hK3 _ _ ⟨r10, r11, by simp [upd, bsel, hd], HF.out⟩
          | 17, ho =>
            simp only [List.getElem?_toArray, List.getElem?_cons_zero, List.getElem?_cons_succ, Option.some.injEq] at ho
            subst ho
            simp [Region.binds] at hd
            have d11 : L 11 = true := by simp [hd]
            rw [d11] at hF
            obtain ⟨A1, d1, rfl, h11⟩ := hF.h11 rfl
            simp only [hd, bsel_t]
            have HF := Lib.hid hF
            clear hF
            go_simp
            go_at_call 151
            (with_reducible refine (HHAS.out W A1 d1 h11).mono ?_)
            rintro e W' ⟨rfl, rfl⟩
            clear h11
            go_simp
            exact hK3 _ _ ⟨r10, .slice A1 ps.length d1, by simp [upd, bsel, hd], by simpa [upd, hd] using HF.out⟩
          | 18, ho =>
            simp only [List.getElem?_toArray, List.getElem?_cons_zero, List.getElem?_cons_succ, Option.some.injEq] at ho
            subst ho
            simp [Region.binds] at hd
            try simp only [hd, bsel_t]
            have HF := Lib.hid hF
            clear hF
            go_simp
            exact hK3 _ _ ⟨r10, r11, by simp [upd, bsel, hd], HF.out⟩
          | 19, ho =>
            simp only [List.getElem?_toArray, List.getElem?_cons_zero, List.getElem?_cons_succ, Option.some.injEq] at ho
            subst ho
            simp [Region.binds] at hd
            try simp only [hd, bsel_t]
            have HF := Lib.hid hF
            clear hF
            go_simp
            exact hK3 _ _ ⟨r10, r11, by simp [upd, bsel, hd], HF.out⟩
          | q + 20, ho => simp at ho
        case fin =>
          intro L act W hJ hfin
          obtain ⟨r10, r11, rfl, hF⟩ := hJ
          have l0 : L 0 = true := by
            cases e : L 0
            · have x := hfin 0 _ rfl e
              simp [Region.binds] at x
            · rfl
          have l1 : L 1 = true := by
            cases e : L 1
            · have x := hfin 1 _ rfl e
              simp [Region.binds, l0] at x
            · rfl
          have l2 : L 2 = true := by
            cases e : L 2
            · have x := hfin 2 _ rfl e
              simp [Region.binds, l0, l1] at x
            · rfl
          have l3 : L 3 = true := by
            cases e : L 3
            · have x := hfin 3 _ rfl e
              simp [Region.binds, l0, l1, l2] at x
            · rfl
          have l4 : L 4 = true := by
            cases e : L 4
            · have x := hfin 4 _ rfl e
              simp [Region.binds, l0, l1, l2, l3] at x
            · rfl
          have l5 : L 5 = true := by
            cases e : L 5
            · have x := hfin 5 _ rfl e
              simp [Region.binds, l0, l1, l2, l3, l4] at x
            · rfl
          have l6 : L 6 = true := by
            cases e : L 6
            · have x := hfin 6 _ rfl e
              simp [Region.binds, l0, l1, l2, l3, l4, l5] at x
            · rfl
          have l7 : L 7 = true := by
            cases e : L 7
            · have x := hfin 7 _ rfl e
              simp [Region.binds, l0, l1, l2, l3, l4, l5, l6] at x
            · rfl
          have l8 : L 8 = true := by
            cases e : L 8
            · have x := hfin 8 _ rfl e
              simp [Region.binds, l0, l1, l2, l3, l4, l5, l6, l7] at x
            · rfl
          have l9 : L 9 = true := by
            cases e : L 9
            · have x := hfin 9 _ rfl e
              simp [Region.binds, l0, l1, l2, l3, l4, l5, l6, l7, l8] at x
            · rfl
          have l10 : L 10 = true := by
            cases e : L 10
            · have x := hfin 10 _ rfl e
              simp [Region.binds, l0, l1, l2, l3, l4, l5, l6, l7, l8, l9] at x
            · rfl
          have l11 : L 11 = true := by
            cases e : L 11
            · have x := hfin 11 _ rfl e
              simp [Region.binds, l0, l1, l2, l3, l4, l5, l6, l7, l8, l9, l10] at x
            · rfl
          have l12 : L 12 = true := by
            cases e : L 12
            · have x := hfin 12 _ rfl e
              simp [Region.binds, l0, l1, l2, l3, l4, l5, l6, l7, l8, l9, l10, l11] at x
            · rfl
          have l13 : L 13 = true := by
            cases e : L 13
            · have x := hfin 13 _ rfl e
              simp [Region.binds, l0, l1, l2, l3, l4, l5, l6, l7, l8, l9, l10, l11, l12] at x
            · rfl
          have l14 : L 14 = true := by
            cases e : L 14
            · have x := hfin 14 _ rfl e
              simp [Region.binds, l0, l1, l2, l3, l4, l5, l6, l7, l8, l9, l10, l11, l12, l13] at x
            · rfl
          have l15 : L 15 = true := by
            cases e : L 15
            · have x := hfin 15 _ rfl e
              simp [Region.binds, l0, l1, l2, l3, l4, l5, l6, l7, l8, l9, l10, l11, l12, l13, l14] at x
            · rfl
          have l16 : L 16 = true := by
            cases e : L 16
            · have x := hfin 16 _ rfl e
              simp [Region.binds, l0, l1, l2, l3, l4, l5, l6, l7, l8, l9, l10, l11, l12, l13, l14, l15] at x
            · rfl
          have l17 : L 17 = true := by
            cases e : L 17
            · have x := hfin 17 _ rfl e
              simp [Region.binds, l0, l1, l2, l3, l4, l5, l6, l7, l8, l9, l10, l11, l12, l13, l14, l15, l16] at x
            · rfl
          have l18 : L 18 = true := by
            cases e : L 18
            · have x := hfin 18 _ rfl e
              simp [Region.binds, l0, l1, l2, l3, l4, l5, l6, l7, l8, l9, l10, l11, l12, l13, l14, l15, l16, l17] at x
            · rfl
          have l19 : L 19 = true := by
            cases e : L 19
            · have x := hfin 19 _ rfl e
              simp [Region.binds, l0, l1, l2, l3, l4, l5, l6, l7, l8, l9, l10, l11, l12, l13, l14, l15, l16, l17, l18] at x
            · rfl
          simp only [l0, l1, l2, l3, l4, l5, l6, l7, l8, l9, l10, l11, l12, l13, l14, l15, l16, l17, l18, l19, bsel_t]
          have HZ := Lib.hid (HB4.out.trans (hF.z.mono HB4.out.size))
          have HZW := Lib.hid (HBW4.out.trans (hF.z.mono HBW4.out.size))
          clear hF hfin l0 l1 l2 l3 l4 l5 l6 l7 l8 l9 l10 l11 l12 l13 l14 l15 l16 l17 l18 l19
          cases hb
          · have HE := Lib.hid (HSO.out (by rw [HPK.out]; rfl))
            go_wp2_with fail
            go_ret
            exact ⟨by rw [HE.out]; rfl, HZW.out⟩
          · have HN := Lib.hid (HNX.out (by rw [HPK.out]; rfl))
            go_wp2_with fail
            go_roundw
            case rel => exact ⟨k + 1, by omega, by go_num, HN.out, HZ.out⟩
            case measure => simp [intOf]; omega
    · obtain rfl : k = l.steps.length := by omega
      have HE := Lib.hid (idxR_none hno)
      have HB := Lib.hid (HZ0.out.trans (hbel.mono HZ0.out.size))
      clear hno hbel hbw
      go_wp2_with fail
      go_ret
      exact ⟨by rw [HE.out]; rfl, HB.out⟩

end Go.Proofs.YtdgnhfhaaghoaaaGreatDoor
