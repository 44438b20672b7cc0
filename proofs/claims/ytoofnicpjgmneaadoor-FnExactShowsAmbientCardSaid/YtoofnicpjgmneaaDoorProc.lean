/- Processes of ambients in memory: sizes, compares and copies of the law package, walked. -/
import Derived.Test.YtoofnicpjgmneaaDoorProg
import Derived.Test.YtoofnicpjgmneaaDoorAgg
import Derived.Test.YtoofnicpjgmneaaDoorCtlMark
import Derived.Test.YtoofnicpjgmneaaDoorLab
import Derived.StillTailTactics
import Derived.Handy
set_option linter.unusedVariables false
namespace Go.Proofs.YtoofnicpjgmneaaDoor
open Go.RowKit

/-- A node: kind, name, parent. -/
abbrev Nd := Int × ByteArray × Int
def encN (c : Nd) : List Value := [.int .i64 c.1, .string c.2.1, .int .i64 c.2.2]
def RN (_ : World) (cs : List Value) (c : Nd) : Prop := cs = encN c
theorem RN_keep : KeepR RN := fun _ _ _ _ h _ => h
theorem encN_len (c : Nd) : (encN c).length = 3 := rfl
def RProc (w : World) (v : Value) (l : List Nd) : Prop := ∃ sv, v = .agg #[sv] ∧ RSl RN 3 w sv l
theorem RProc.below {w w' : World} {v : Value} {l : List Nd} (h : RProc w v l) (hb : Below w.heap.size w w') : RProc w' v l := by
  obtain ⟨sv, e, hs⟩ := h
  exact ⟨sv, e, hs.below RN_keep hb⟩

theorem flat_encN (l : List Nd) : (l.map encN).flatten = l.flatMap encN := by
  induction l with
  | nil => rfl
  | cons a r ih => simp [ih]
theorem Own.rn {w : World} {S : Nat → Prop} {v : Value} {l : List Nd} (h : Own w S v l.length (l.flatMap encN)) (hn : l.length ≤ 16777216) : RSl RN 3 w v l := by
  obtain ⟨A, c, e, hc⟩ := h.cells
  refine ⟨A, c, l.map encN, e, by unfold maxLen; omega, by simp, fun cs h => ?_, by rw [flat_encN]; exact hc, fun i cs x h1 h2 => ?_⟩
  · obtain ⟨x, _, rfl⟩ := List.mem_map.1 h
    rfl
  · rw [List.getElem?_map, h2] at h1
    injection h1 with h1
    exact h1.symm

set_option maxHeartbeats 1000000 in
theorem eqAmbNode_any (a b : Nd) (w : World) :
    Calls Tryd.prog 32 #[.agg #[.int .i64 a.1, .string a.2.1, .int .i64 a.2.2], .agg #[.int .i64 b.1, .string b.2.1, .int .i64 b.2.2]] w fun e w' => e = .returned (.bool (sameT a b)) ∧ Below w.heap.size w w' := by
  obtain ⟨y, x, z⟩ := a
  obtain ⟨y', x', z'⟩ := b
  by_cases hy : y = y'
  · subst hy
    by_cases hx : x = x'
    · subst hx
      have hs := str_eq x
      by_cases hz : z = z'
      · subst hz
        have h1 : (y != y) = false := by rw [bne_self_eq_false]
        have h2 : (z != z) = false := by rw [bne_self_eq_false]
        have HE := Lib.hid (sameT_refl (y, x, z))
        go_enter Tryd.func32, Tryd.ntmps32
        go_wp2
        go_ret
        rw [HE.out]
        exact ⟨rfl, ((Below.refl _ _).alloc (Nat.le_refl _) _).alloc (by simp) _⟩
      · have h1 : (y != y) = false := by rw [bne_self_eq_false]
        have h2 : (z != z') = true := by rw [bne_iff_ne]; exact hz
        have HE := Lib.hid (sameT_ne (show (y, x, z) ≠ (y, x, z') by simpa using hz))
        clear hz
        go_enter Tryd.func32, Tryd.ntmps32
        go_wp2
        go_ret
        rw [HE.out]
        exact ⟨rfl, ((Below.refl _ _).alloc (Nat.le_refl _) _).alloc (by simp) _⟩
    · have h1 : (y != y) = false := by rw [bne_self_eq_false]
      have hs := str_ne hx
      have HE := Lib.hid (sameT_ne (show (y, x, z) ≠ (y, x', z') by intro e; simp at e; exact hx e.1))
      clear hx
      go_enter Tryd.func32, Tryd.ntmps32
      go_wp2
      go_ret
      rw [HE.out]
      exact ⟨rfl, ((Below.refl _ _).alloc (Nat.le_refl _) _).alloc (by simp) _⟩
  · have h2 : (y != y') = true := by rw [bne_iff_ne]; exact hy
    have HE := Lib.hid (sameT_ne (show (y, x, z) ≠ (y', x', z') by intro e; simp at e; exact hy e.1))
    clear hy
    go_enter Tryd.func32, Tryd.ntmps32
    go_wp2
    go_ret
    rw [HE.out]
    exact ⟨rfl, ((Below.refl _ _).alloc (Nat.le_refl _) _).alloc (by simp) _⟩

set_option maxRecDepth 100000 in
set_option maxHeartbeats 2000000 in
theorem eqAmbNodeS_any (v u : Value) (xs ys : List Nd) (w : World) (hv : RSl RN 3 w v xs) (hu : RSl RN 3 w u ys) (hn : xs.length ≤ 16777216) (hm : ys.length ≤ 16777216) :
    Calls Tryd.prog 20 #[v, u] w fun e w' => e = .returned (.bool (sameT xs ys)) ∧ Below w.heap.size w w' := by
  have HV := Lib.hid (show ∀ W, Below w.heap.size w W → RSl RN 3 W v xs from fun W hb => hv.below RN_keep hb)
  have HU := Lib.hid (show ∀ W, Below w.heap.size w W → RSl RN 3 W u ys from fun W hb => hu.below RN_keep hb)
  obtain ⟨A, c, rfl, _⟩ := hv.form
  obtain ⟨B, d, rfl, _⟩ := hu.form
  clear hv hu
  by_cases hl : xs.length = ys.length
  · have hl' : ((xs.length : Int) == (ys.length : Int)) = true := by simp [hl]
    have hl'' : ((xs.length : Int) != (ys.length : Int)) = false := by simp [hl]
    have HL := Lib.hid hl
    clear hl
    go_enter Tryd.func20, Tryd.ntmps20
    go_wp2
    go_loopw [5] (fun i wr => ∃ k : Nat, k ≤ xs.length ∧ i = .int .i64 k ∧ (∀ (j : Nat) x y, j < k → xs[j]? = some x → ys[j]? = some y → sameT x y = true) ∧ Below w.heap.size w wr)
      (fun i _ => xs.length - (intOf i).toNat)
    case atStart => exact ⟨0, Nat.zero_le _, rfl, fun j _ _ hj => by omega, Below.refl _ _⟩
    case round =>
      obtain ⟨k, hk, rfl, hsame, hbel⟩ := hrel
      have HS := Lib.hid hsame
      clear hsame
      by_cases hlt : k < xs.length
      · have hlt2 : k < ys.length := by have := HL.out; omega
        obtain ⟨b, o, c', cs, ev, hcl, hcr, hc⟩ := (HV.out wr hbel).at_ (by omega) (List.getElem?_eq_getElem hlt)
        obtain ⟨b', o', d', ds, eu, hdl, hdr, hd⟩ := (HU.out wr hbel).at_ (by omega) (List.getElem?_eq_getElem hlt2)
        cases ev
        cases eu
        have HX := Lib.hid (List.getElem?_eq_getElem hlt)
        have HY := Lib.hid (List.getElem?_eq_getElem hlt2)
        generalize xs[k] = x at *
        generalize ys[k] = y at *
        subst hcr
        subst hdr
        have hk0 := hc 0 _ rfl
        have hk1 := hc 1 _ rfl
        have hk2 := hc 2 _ rfl
        have gk0 := hd 0 _ rfl
        have gk1 := hd 1 _ rfl
        have gk2 := hd 2 _ rfl
        rw [← Nat.add_assoc] at hk1
        rw [← Nat.add_assoc] at hk2
        rw [Nat.add_zero] at hk0
        rw [← Nat.add_assoc] at gk1
        rw [← Nat.add_assoc] at gk2
        rw [Nat.add_zero] at gk0
        have H := Lib.hid (eqAmbNode_any x y wr.drew)
        have b0 : (0 : Int) ≤ (k : Int) := by omega
        have b1 : (k : Int) < (xs.length : Int) := by omega
        have b2 : (k : Int) < (ys.length : Int) := by omega
        clear hc hd hcl hdl
        by_cases hx : sameT x y = true
        · go_wp2
          go_still_tail 8, (by kernel_rfl)
          change wpList _ _ _ _ _ wr.drew
          go_wp2_with ((with_reducible refine H.out.mono ?_); rintro e w1 ⟨rfl, hb1⟩)
          go_roundw
          case rel =>
            refine ⟨k + 1, by omega, by go_num, fun j x' y' hj h1 h2 => ?_, hbel.drew.trans (hb1.mono hbel.size)⟩
            rcases Nat.lt_succ_iff_lt_or_eq.1 hj with h | h
            · exact HS.out j x' y' h h1 h2
            · subst h
              have e1 := HX.out
              have e2 := HY.out
              rw [h1] at e1
              rw [h2] at e2
              injection e1 with e1
              injection e2 with e2
              subst e1
              subst e2
              exact hx
          case measure => simp [intOf]; omega
        · have hx' : sameT x y = false := by simpa using hx
          clear hx
          have HE := Lib.hid (sameT_at HX.out HY.out hx')
          go_wp2
          go_still_tail 8, (by kernel_rfl)
          change wpList _ _ _ _ _ wr.drew
          go_wp2_with ((with_reducible refine H.out.mono ?_); rintro e w1 ⟨rfl, hb1⟩)
          go_ret
          exact ⟨by rw [HE.out]; rfl, hbel.drew.trans (hb1.mono hbel.size)⟩
      · obtain rfl : k = xs.length := by omega
        have HE := Lib.hid (sameT_all HL.out (fun j x y h1 h2 => HS.out j x y (List.getElem?_eq_some_iff.1 h1).1 h1 h2))
        go_wp2
        go_ret
        exact ⟨by rw [HE.out]; rfl, hbel⟩
  · have hl' : ((xs.length : Int) == (ys.length : Int)) = false := by rw [beq_eq_false_iff_ne]; omega
    have hl'' : ((xs.length : Int) != (ys.length : Int)) = true := by rw [bne_iff_ne]; omega
    have HE := Lib.hid (sameT_len hl)
    clear hl
    go_enter Tryd.func20, Tryd.ntmps20
    go_wp2
    go_ret
    exact ⟨by rw [HE.out]; rfl, Below.refl _ _⟩

set_option maxHeartbeats 1000000 in
theorem eqProcess_any (v u : Value) (xs ys : List Nd) (w : World) (hv : RProc w v xs) (hu : RProc w u ys) (hn : xs.length ≤ 16777216) (hm : ys.length ≤ 16777216) :
    Calls Tryd.prog 10 #[v, u] w fun e w' => e = .returned (.bool (sameT xs ys)) ∧ Below w.heap.size w w' := by
  obtain ⟨sv, rfl, hsv⟩ := hv
  obtain ⟨su, rfl, hsu⟩ := hu
  have hb2 : ∀ o1 o2, Below w.heap.size w ((w.alloc o1).alloc o2) := fun o1 o2 => ((Below.refl _ _).alloc (Nat.le_refl _) o1).alloc (by simp) o2
  have H := Lib.hid (fun o1 o2 => eqAmbNodeS_any sv su xs ys ((w.alloc o1).alloc o2) (hsv.below RN_keep (hb2 _ _)) (hsu.below RN_keep (hb2 _ _)) hn hm)
  clear hsv hsu
  by_cases hs : sameT xs ys = true
  · rw [hs] at H ⊢
    go_enter Tryd.func10, Tryd.ntmps10
    go_wp2_with fail
    refine (H.out _ _).mono ?_
    rintro e w1 ⟨rfl, hb⟩
    go_wp2_with fail
    go_ret
    exact ⟨rfl, (hb2 _ _).trans (hb.mono (hb2 _ _).size)⟩
  · have hs' : sameT xs ys = false := by simpa using hs
    clear hs
    rw [hs'] at H ⊢
    go_enter Tryd.func10, Tryd.ntmps10
    go_wp2_with fail
    refine (H.out _ _).mono ?_
    rintro e w1 ⟨rfl, hb⟩
    go_wp2_with fail
    go_ret
    exact ⟨rfl, (hb2 _ _).trans (hb.mono (hb2 _ _).size)⟩

set_option maxHeartbeats 1000000 in
theorem toAmbNode_any (a : Nd) (w : World) :
    Calls Tryd.prog 30 #[.agg #[.int .i64 a.1, .string a.2.1, .int .i64 a.2.2]] w fun e w' => e = .returned (.agg #[.int .i64 a.1, .string a.2.1, .int .i64 a.2.2]) ∧ Below w.heap.size w w' := by
  obtain ⟨y, x, z⟩ := a
  go_enter Tryd.func30, Tryd.ntmps30
  go_wp2
  refine bodyPost_ret (v := .agg #[.int .i64 y, .string x, .int .i64 z]) (by simp [results, Tryd.results30, go_sem, *]) rfl ⟨rfl, ?_⟩
  repeat (first | exact Below.refl _ _ | (refine Below.setCell ?_ (by simp; try omega) _) | (refine Below.alloc ?_ (by simp; try omega) _))

theorem info_nd : (Tryd.prog.info? 41).map (fun i => (i.zero, i.size, i.bytes)) = some (some (.agg #[.int .i64 0, .string ⟨#[]⟩, .int .i64 0]), 3, 32) := by kernel_rfl

def nd0 : Nd := (0, ⟨#[]⟩, 0)
def ndAt (l : List Nd) (i : Nat) : Nd := l.getD i nd0
theorem ndAt_all (l : List Nd) : (List.range l.length).map (ndAt l) = l := by
  apply List.ext_getElem
  · simp
  · intro i h1 h2
    simp [ndAt, List.getD, h2]

set_option maxRecDepth 100000 in
set_option maxHeartbeats 1000000 in
theorem toAmbNodeS_any (v : Value) (l : List Nd) (w : World) (hv : RSl RN 3 w v l) (hn : l.length ≤ 16777216) :
    Calls Tryd.prog 17 #[v] w fun e w' => ∃ u, e = .returned u ∧ Own w' (fun b => w.heap.size ≤ b ∧ b < w'.heap.size) u l.length (l.flatMap encN) ∧ Below w.heap.size w w' := by
  obtain ⟨i0, hi, hz0, hz1, hz2⟩ := info_parts info_nd
  have HV := Lib.hid (show ∀ W, Below w.heap.size w W → RSl RN 3 W v l from fun W hb => hv.below RN_keep hb)
  obtain ⟨A, c, rfl, _⟩ := hv.form
  clear hv
  go_enter Tryd.func17, Tryd.ntmps17
  go_wp2_with (first | (at_make; refine wpList_make_full _ rfl _ _ 27 rfl w.heap.size 41 i0 _ 3 Tryd.underlying27 hi hz0 hz1 _ _ _ _ l.length rfl rfl rfl rfl (by rw [hz2]; omega) (by unfold maxLen; omega) (Nat.le_refl _) ?_; intro w1 hown hgrow))
  have hz : (madeCells (Value.agg #[.int .i64 0, .string ⟨#[]⟩, .int .i64 0]).cells (l.length * 3)).toList = markTo encN (ndAt l) (List.replicate l.length nd0) 0 := by
    have := made_flat (Value.agg #[.int .i64 0, .string ⟨#[]⟩, .int .i64 0]).cells l.length
    rw [markTo_zero, ← flat_encN, List.map_replicate]
    exact this
  rw [hz] at hown
  have hbel : Below w.heap.size w w1 := (Below.refl _ _).grown hgrow (Nat.le_refl _) (by simp)
  clear hz hgrow
  go_loopw [4] (fun i wr => ∃ (k : Nat), k ≤ l.length ∧ i = .int .i64 k ∧
      wr.ownsRow w.heap.size 41 3 (.slice (some ⟨w.heap.size, 0, none⟩) l.length l.length) l.length (markTo encN (ndAt l) (List.replicate l.length nd0) k) ∧ Below w.heap.size w wr)
    (fun i _ => l.length - (intOf i).toNat)
  case atStart => exact ⟨0, Nat.zero_le _, rfl, hown, hbel⟩
  case round =>
    clear hown hbel
    obtain ⟨k, hk, rfl, hown, hbel⟩ := hrel
    have hlen := markTo_len encN_len (ndAt l) (List.replicate l.length nd0) k (by simpa using hk)
    by_cases hlt : k < l.length
    · obtain ⟨b, o, c', cs, ev, hcl, hcr, hc⟩ := (HV.out wr hbel).at_ (by omega) (List.getElem?_eq_getElem hlt)
      cases ev
      have HX := Lib.hid (show ndAt l k = l[k] by simp [ndAt, List.getD, hlt])
      generalize l[k] = x at *
      subst hcr
      have k0 := hc 0 _ rfl
      have k1 := hc 1 _ rfl
      have k2 := hc 2 _ rfl
      rw [Nat.add_zero] at k0
      rw [← Nat.add_assoc] at k1 k2
      have H := Lib.hid (toAmbNode_any x wr)
      have HO := Lib.hid hown
      have HB := Lib.hid hbel
      have HLN := Lib.hid hlen
      clear hown hbel hc hcl hlen
      go_wp2_with fail
      refine H.out.mono ?_
      rintro e w1 ⟨rfl, hb1⟩
      have hown := owns_below HO.out hb1 (Nat.le_refl _)
      have hlen := HLN.out
      rw [List.length_replicate] at hlen
      have f0 := hown.cellAt (k * 3) (by omega)
      have f1 := hown.cellAt (k * 3 + 1) (by omega)
      have f2 := hown.cellAt (k * 3 + 2) (by omega)
      rw [List.getElem?_eq_getElem (by omega)] at f0 f1 f2
      have g0 := hown.frozenAt (k * 3)
      have g1 := hown.frozenAt (k * 3 + 1)
      have g2 := hown.frozenAt (k * 3 + 2)
      generalize (markTo encN (ndAt l) (List.replicate l.length nd0) k)[k * 3] = y1 at f0
      generalize (markTo encN (ndAt l) (List.replicate l.length nd0) k)[k * 3 + 1] = y2 at f1
      generalize (markTo encN (ndAt l) (List.replicate l.length nd0) k)[k * 3 + 2] = y3 at f2
      have HN := Lib.hid (owns_setCells (encN x) w1 (k * 3) _ hown)
      have hms := markTo_set encN_len (ndAt l) (List.replicate l.length nd0) k (by simpa using hlt)
      rw [HX.out] at hms
      rw [hms] at HN
      have HB1 := Lib.hid hb1
      clear hown hb1 hms hlen
      go_wp2
      go_roundw
      case rel =>
        refine ⟨k + 1, by omega, by go_num, HN.out, ?_⟩
        exact (((HB.out.trans (HB1.out.mono HB.out.size)).setCell (Nat.le_refl _) _).setCell (Nat.le_refl _) _).setCell (Nat.le_refl _) _
      case measure => simp [intOf]; omega
    · obtain rfl : k = l.length := by omega
      have hf : markTo encN (ndAt l) (List.replicate l.length nd0) l.length = l.flatMap encN := by
        have := markTo_all encN (ndAt l) (List.replicate l.length nd0)
        rw [List.length_replicate, ndAt_all] at this
        exact this
      rw [hf] at hown
      have HO := Lib.hid hown
      have HB := Lib.hid hbel
      clear hown hbel hlen
      go_wp2
      go_ret
      exact ⟨_, rfl, (Own.of_owns HO.out).mono (fun b hb => HO.out.lt b hb), HB.out⟩

set_option maxHeartbeats 1000000 in
theorem toProcess_any (v : Value) (l : List Nd) (w : World) (hv : RProc w v l) (hn : l.length ≤ 16777216) :
    Calls Tryd.prog 8 #[v] w fun e w' => ∃ sv, e = .returned (.agg #[sv]) ∧ Own w' (fun b => w.heap.size ≤ b ∧ b < w'.heap.size) sv l.length (l.flatMap encN) ∧ Below w.heap.size w w' := by
  obtain ⟨sv, rfl, hsv⟩ := hv
  have hb3 : ∀ o1 o2 o3, Below w.heap.size w (((w.alloc o1).alloc o2).alloc o3) := fun o1 o2 o3 => (((Below.refl _ _).alloc (Nat.le_refl _) o1).alloc (by simp) o2).alloc (by simp; omega) o3
  have H1 := Lib.hid (fun o1 o2 o3 => toAmbNodeS_any sv l (((w.alloc o1).alloc o2).alloc o3) (hsv.below RN_keep (hb3 o1 o2 o3)) hn)
  go_enter Tryd.func8, Tryd.ntmps8
  go_wp2_with fail
  refine (H1.out _ _ _).mono ?_
  rintro e w1 ⟨u1, rfl, hown1, hw1⟩
  obtain ⟨A1, c1, rfl, _⟩ := id hown1
  obtain ⟨b0, b1, b2, bz⟩ := three_boxes hw1
  have k1 := cell_of_row w1 _ 0 _ _ _ b0
  have k2 := cell_of_row w1 _ 0 _ _ _ b1
  have k3 := cell_of_row w1 _ 0 _ _ _ b2
  have f2 := frozen_of_row w1 _ 0 _ _ b1
  have f3 := frozen_of_row w1 _ 0 _ _ b2
  have HO := Lib.hid hown1
  have HZ := Lib.hid ((hb3 _ _ _).trans (hw1.mono (hb3 _ _ _).size))
  clear hw1 hown1 b0 b1 b2 hsv
  go_wp2_with fail
  refine bodyPost_ret (v := .agg #[.slice A1 l.length c1]) (by simp [results, Tryd.results8, go_sem, *]) rfl ⟨_, rfl, ?_, ?_⟩
  · have K : Kept (fun b => b < w.heap.size + 1 + 1 + 1) w1 _ := ((Kept.refl _ _).setCell (p := ⟨w.heap.size + 1 + 1, 0, none⟩) (by simp) (.slice A1 l.length c1)).setCell (p := ⟨w.heap.size + 1, 0, none⟩) (by simp) (.slice A1 l.length c1)
    exact (HO.out.kept K (fun b hb => by simp at hb ⊢; omega)).mono (fun b hb => by simp at hb ⊢; omega)
  · exact (HZ.out.setCell (by simp; omega) _).setCell (by simp) _

/-- What is left after the names of the nodes. -/
def szNd (l : List Nd) (left : Int) : Int := if left - l.length < 0 then -1 else szRows (l.map (fun x => x.2.1.size)) (left - l.length)

set_option maxHeartbeats 400000 in
theorem szAmbNode_any (a : Nd) (left : Int) (w : World) (hn : a.2.1.size ≤ maxLen) (h0 : 0 ≤ left) (h1 : left ≤ 1048576) :
    Calls Tryd.prog 28 #[.agg #[.int .i64 a.1, .string a.2.1, .int .i64 a.2.2], .int .i64 left] w fun e w' => e = .returned (.int .i64 (szRow a.2.1.size left)) ∧ Below w.heap.size w w' := by
  obtain ⟨y, x, z⟩ := a
  have hn' : (x.size : Int) ≤ 9223372036854775807 := by have h2 : x.size ≤ maxLen := hn; unfold maxLen at h2; omega
  clear hn
  unfold szRow
  by_cases hl : left - (x.size : Int) < 0
  · rw [if_pos hl]
    go_enter Tryd.func28, Tryd.ntmps28
    go_wp2
    go_ret
    exact ⟨rfl, (Below.refl _ _).alloc (Nat.le_refl _) _⟩
  · rw [if_neg hl]
    go_enter Tryd.func28, Tryd.ntmps28
    go_wp2
    go_ret
    exact ⟨rfl, (Below.refl _ _).alloc (Nat.le_refl _) _⟩

set_option maxRecDepth 100000 in
set_option maxHeartbeats 1000000 in
theorem szAmbNodeS_any (v : Value) (l : List Nd) (left : Int) (w : World) (h0 : 0 ≤ left) (h1 : left ≤ 1048576) (hv : RSl RN 3 w v l) (hs : ∀ x ∈ l, x.2.1.size ≤ maxLen) :
    Calls Tryd.prog 15 #[v, .int .i64 left] w fun e w' => e = .returned (.int .i64 (szNd l left)) ∧ Below w.heap.size w w' := by
  have HV := Lib.hid (show ∀ W, Below w.heap.size w W → RSl RN 3 W v l from fun W hb => hv.below RN_keep hb)
  obtain ⟨A, c, rfl, hm⟩ := hv.form
  have hn' : (l.length : Int) ≤ 9223372036854775807 := by unfold maxLen at hm; omega
  clear hv hm
  unfold szNd
  by_cases hl : left - (l.length : Int) < 0
  · rw [if_pos hl]
    go_enter Tryd.func15, Tryd.ntmps15
    go_wp2
    go_ret
    exact ⟨rfl, Below.refl _ _⟩
  · rw [if_neg hl]
    go_enter Tryd.func15, Tryd.ntmps15
    go_wp2
    go_loopw [1, 5] (fun lf i wr => ∃ (k : Nat) (m : Int), k ≤ l.length ∧ i = .int .i64 k ∧ lf = .int .i64 m ∧ 0 ≤ m ∧ m ≤ 1048576 ∧ szRows (l.map (fun x => x.2.1.size)) (left - l.length) = szRows ((l.map (fun x => x.2.1.size)).drop k) m ∧ Below w.heap.size w wr)
      (fun _ i _ => l.length - (intOf i).toNat)
    case atStart => exact ⟨0, _, Nat.zero_le _, rfl, rfl, by omega, by omega, by simp, Below.refl _ _⟩
    case round =>
      obtain ⟨k, m, hk, rfl, rfl, hm0, hm1, hE, hbel⟩ := hrel
      by_cases hlt : k < l.length
      · obtain ⟨b, o, c', cs, ev, hcl, hcr, hc⟩ := (HV.out wr hbel).at_ (by omega) (List.getElem?_eq_getElem hlt)
        cases ev
        have hd : (l.map (fun x => x.2.1.size)).drop k = l[k].2.1.size :: (l.map (fun x => x.2.1.size)).drop (k + 1) := by
          rw [List.drop_eq_getElem_cons (by simpa using hlt)]
          simp
        rw [hd, szRows] at hE
        have hbm := hs _ (List.getElem_mem hlt)
        have HE := Lib.hid hE
        clear hE hd
        generalize l[k] = x at *
        subst hcr
        have k0 := hc 0 _ rfl
        have k1 := hc 1 _ rfl
        have k2 := hc 2 _ rfl
        rw [Nat.add_zero] at k0
        rw [← Nat.add_assoc] at k1 k2
        clear hc hcl
        have HB := Lib.hid hbel
        clear hbel
        by_cases hq : m - (x.2.1.size : Int) < 0
        · have e1 : szRow x.2.1.size m = -1 := by unfold szRow; rw [if_pos hq]
          have H := Lib.hid (szAmbNode_any x m wr hbm hm0 hm1)
          rw [e1] at H
          rw [if_pos hq] at HE
          clear e1
          go_wp2_with fail
          refine H.out.mono ?_
          rintro e w1 ⟨rfl, hb1⟩
          go_wp2
          go_ret
          rw [HE.out]
          exact ⟨rfl, HB.out.trans (hb1.mono HB.out.size)⟩
        · have e1 : szRow x.2.1.size m = m - x.2.1.size := by unfold szRow; rw [if_neg hq]
          have H := Lib.hid (szAmbNode_any x m wr hbm hm0 hm1)
          rw [e1] at H
          rw [if_neg hq] at HE
          clear e1
          go_wp2_with fail
          refine H.out.mono ?_
          rintro e w1 ⟨rfl, hb1⟩
          go_wp2
          go_roundw
          case rel => exact ⟨k + 1, m - x.2.1.size, by omega, by go_num, rfl, by omega, by omega, HE.out, HB.out.trans (hb1.mono HB.out.size)⟩
          case measure => simp [intOf]; omega
      · obtain rfl : k = l.length := by omega
        have hd : (l.map (fun x => x.2.1.size)).drop l.length = [] := by simp
        rw [hd, szRows] at hE
        have HE := Lib.hid hE
        clear hE hd
        go_wp2
        go_ret
        rw [HE.out]
        exact ⟨rfl, hbel⟩

theorem szNd_neg (l : List Nd) (left : Int) (h : 0 ≤ left) : szNd l left = -1 ∨ (0 ≤ szNd l left ∧ (l.length : Int) ≤ left) := by
  unfold szNd
  split
  · exact .inl rfl
  · rcases szRows_neg (l.map (fun x => x.2.1.size)) (left - l.length) (by omega) with h1 | h1
    · exact .inl h1
    · exact .inr ⟨h1, by omega⟩

set_option maxHeartbeats 1000000 in
theorem szProcess_any (v : Value) (l : List Nd) (left : Int) (w : World) (h0 : 0 ≤ left) (h1 : left ≤ 1048576) (hv : RProc w v l) (hs : ∀ x ∈ l, x.2.1.size ≤ maxLen) :
    Calls Tryd.prog 6 #[v, .int .i64 left] w fun e w' => e = .returned (.int .i64 (szNd l left)) ∧ Below w.heap.size w w' := by
  obtain ⟨sv, rfl, hsv⟩ := hv
  have hb1 : ∀ o, Below w.heap.size w (w.alloc o) := fun o => (Below.refl _ _).alloc (Nat.le_refl _) o
  have H1 := Lib.hid (fun o => szAmbNodeS_any sv l left (w.alloc o) h0 h1 (hsv.below RN_keep (hb1 o)) hs)
  have hng := szNd_neg l left h0
  generalize szNd l left = z at *
  by_cases hz : z < 0
  · obtain rfl : z = -1 := by omega
    go_enter Tryd.func6, Tryd.ntmps6
    go_wp2_with fail
    refine (H1.out _).mono ?_
    rintro e w1 ⟨rfl, hb⟩
    go_wp2
    go_ret
    exact ⟨rfl, (hb1 _).trans (hb.mono (hb1 _).size)⟩
  · go_enter Tryd.func6, Tryd.ntmps6
    go_wp2_with fail
    refine (H1.out _).mono ?_
    rintro e w1 ⟨rfl, hb⟩
    go_wp2
    go_ret
    exact ⟨rfl, (hb1 _).trans (hb.mono (hb1 _).size)⟩

end Go.Proofs.YtoofnicpjgmneaaDoor
