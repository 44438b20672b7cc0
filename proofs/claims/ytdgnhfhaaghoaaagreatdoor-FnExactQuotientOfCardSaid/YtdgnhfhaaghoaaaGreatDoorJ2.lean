/- Labelled systems copied and compared: the law package's helpers. -/
import Derived.Test.YtdgnhfhaaghoaaaGreatDoorProg
import Derived.Test.YtdgnhfhaaghoaaaGreatDoorJ1
import Derived.Handy
import Derived.StillTailTactics
set_option linter.unusedVariables false
namespace Go.Proofs.YtdgnhfhaaghoaaaGreatDoor
open Go.RowKit

set_option maxHeartbeats 1000000 in
theorem toIntA3_any (x y z : Int) (w : World) :
    Calls Tryz.prog 142 #[.agg #[.int .i64 x, .int .i64 y, .int .i64 z]] w fun e w' => e = .returned (.agg #[.int .i64 x, .int .i64 y, .int .i64 z]) ∧ Below w.heap.size w w' := by
  go_enter Tryz.func142, Tryz.ntmps142
  go_wp2
  go_rounds 4
  exact bodyPost_ret (v := .agg #[.int .i64 x, .int .i64 y, .int .i64 z]) (by simp [results, Tryz.results142, go_sem]) rfl
    ⟨rfl, (((Below.refl _ _).alloc (Nat.le_refl _) _).alloc (by simp) _).alloc (by simp; omega) _⟩

def same3 (t u : I3) : Bool := decide (t = u)

set_option maxHeartbeats 1000000 in
theorem eqIntA3_any (t u : I3) (w : World) :
    Calls Tryz.prog 143 #[.agg #[.int .i64 t.1, .int .i64 t.2.1, .int .i64 t.2.2], .agg #[.int .i64 u.1, .int .i64 u.2.1, .int .i64 u.2.2]] w fun e w' => e = .returned (.bool (same3 t u)) ∧ Below w.heap.size w w' := by
  obtain ⟨x, y, z⟩ := t
  obtain ⟨x', y', z'⟩ := u
  by_cases hx : x = x'
  · subst hx
    by_cases hy : y = y'
    · subst hy
      by_cases hz : z = z'
      · subst hz
        have hx : (x != x) = false := by rw [bne_self_eq_false]
        have hy : (y != y) = false := by rw [bne_self_eq_false]
        have hz : (z != z) = false := by rw [bne_self_eq_false]
        have HE := Lib.hid (show same3 (x, y, z) (x, y, z) = true by simp [same3])
        go_enter Tryz.func143, Tryz.ntmps143
        go_wp2
        refine wp_loop_rounds 4 ?_
        rw [rounds_succ]
        go_wp2
        go_quiet (fail)
        go_wp2
        rw [rounds_succ]
        go_wp2
        go_quiet (fail)
        go_wp2
        rw [rounds_succ]
        go_wp2
        go_quiet (fail)
        go_wp2
        rw [rounds_succ]
        go_wp2
        go_ret
        rw [HE.out]
        exact ⟨rfl, by (repeat apply below_drewN'); exact ((Below.refl _ _).alloc (Nat.le_refl _) _).alloc (by simp) _⟩
      · have hn := hz
        have hx : (x != x) = false := by rw [bne_self_eq_false]
        have hy : (y != y) = false := by rw [bne_self_eq_false]
        have hb : (z != z') = true := by rw [bne_iff_ne]; exact hz
        have HE := Lib.hid (show same3 (x, y, z) (x, y, z') = false by simp [same3, *])
        clear hn hz
        go_enter Tryz.func143, Tryz.ntmps143
        go_wp2
        refine wp_loop_rounds 4 ?_
        rw [rounds_succ]
        go_wp2
        go_quiet (fail)
        go_wp2
        rw [rounds_succ]
        go_wp2
        go_quiet (fail)
        go_wp2
        rw [rounds_succ]
        go_wp2
        go_quiet (fail)
        go_wp2
        go_ret
        rw [HE.out]
        exact ⟨rfl, by (repeat apply below_drewN'); exact ((Below.refl _ _).alloc (Nat.le_refl _) _).alloc (by simp) _⟩
    · have hn := hy
      have hx : (x != x) = false := by rw [bne_self_eq_false]
      have hb : (y != y') = true := by rw [bne_iff_ne]; exact hy
      have HE := Lib.hid (show same3 (x, y, z) (x, y', z') = false by simp [same3, *])
      clear hn hy
      go_enter Tryz.func143, Tryz.ntmps143
      go_wp2
      refine wp_loop_rounds 4 ?_
      rw [rounds_succ]
      go_wp2
      go_quiet (fail)
      go_wp2
      rw [rounds_succ]
      go_wp2
      go_quiet (fail)
      go_wp2
      go_ret
      rw [HE.out]
      exact ⟨rfl, by (repeat apply below_drewN'); exact ((Below.refl _ _).alloc (Nat.le_refl _) _).alloc (by simp) _⟩
  · have hn := hx
    have hb : (x != x') = true := by rw [bne_iff_ne]; exact hx
    have HE := Lib.hid (show same3 (x, y, z) (x', y', z') = false by simp [same3, *])
    clear hn hx
    go_enter Tryz.func143, Tryz.ntmps143
    go_wp2
    refine wp_loop_rounds 4 ?_
    rw [rounds_succ]
    go_wp2
    go_quiet (fail)
    go_wp2
    go_ret
    rw [HE.out]
    exact ⟨rfl, by (repeat apply below_drewN'); exact ((Below.refl _ _).alloc (Nat.le_refl _) _).alloc (by simp) _⟩

def sameSS (xss yss : List (List Int)) : Bool := decide (xss = yss)

theorem sameSS_len {xs ys : List (List Int)} (h : xs.length ≠ ys.length) : sameSS xs ys = false := by
  unfold sameSS; rw [decide_eq_false_iff_not]; intro e; exact h (by rw [e])
theorem sameSS_at {xs ys : List (List Int)} {k : Nat} {x y : List Int} (hx : xs[k]? = some x) (hy : ys[k]? = some y) (h : sameI x y = false) : sameSS xs ys = false := by
  unfold sameI at h
  unfold sameSS
  rw [decide_eq_false_iff_not] at h ⊢
  intro e
  subst e
  rw [hx] at hy
  injection hy with hy
  exact h hy
theorem sameSS_all {xs ys : List (List Int)} (hl : xs.length = ys.length) (h : ∀ (j : Nat) x y, xs[j]? = some x → ys[j]? = some y → sameI x y = true) : sameSS xs ys = true := by
  unfold sameSS
  rw [decide_eq_true_iff]
  apply List.ext_getElem hl
  intro i h1 h2
  simpa [sameI] using h i _ _ (List.getElem?_eq_getElem h1) (List.getElem?_eq_getElem h2)

/-- The rows are short enough for the compare's contract. -/
def Small (xss : List (List Int)) : Prop := ∀ xs ∈ xss, xs.length ≤ 16777216

set_option maxRecDepth 100000 in
set_option maxHeartbeats 1000000 in
theorem eqIntSS_any (v u : Value) (xss yss : List (List Int)) (w : World) (hv : RSS w v xss) (hu : RSS w u yss) (hn : xss.length ≤ 16777216) (hm : yss.length ≤ 16777216) (hsx : Small xss) (hsy : Small yss) :
    Calls Tryz.prog 67 #[v, u] w fun e w' => e = .returned (.bool (sameSS xss yss)) ∧ Below w.heap.size w w' := by
  obtain ⟨A, c, vs, rfl, _, hvl, hA, hvi⟩ := hv
  obtain ⟨B, d, us, rfl, _, hul, hB, hui⟩ := hu
  by_cases hl : xss.length = yss.length
  · have hl' : ((xss.length : Int) == (yss.length : Int)) = true := by simp [hl]
    have hl'' : ((xss.length : Int) != (yss.length : Int)) = false := by simp [hl]
    have HL := Lib.hid hl
    have HVL := Lib.hid hvl
    have HUL := Lib.hid hul
    clear hl hvl hul
    go_enter Tryz.func67, Tryz.ntmps67
    go_wp2
    go_loopw [5] (fun i wr => ∃ k : Nat, k ≤ xss.length ∧ i = .int .i64 k ∧ (∀ (j : Nat) x y, j < k → xss[j]? = some x → yss[j]? = some y → sameI x y = true) ∧ Below w.heap.size w wr)
      (fun i _ => xss.length - (intOf i).toNat)
    case atStart => exact ⟨0, Nat.zero_le _, rfl, fun j _ _ hj => by omega, Below.refl _ _⟩
    case round =>
      obtain ⟨k, hk, rfl, hsame, hbel⟩ := hrel
      have HS := Lib.hid hsame
      clear hsame
      by_cases hlt : k < xss.length
      · have hlt2 : k < yss.length := by have := HL.out; omega
        have hkv : k < vs.length := by have := HVL.out; omega
        have hku : k < us.length := by have := HUL.out; omega
        obtain ⟨b, o, rfl, hc⟩ := (hA.below hbel).at_ hkv
        have hck := hc k _ (List.getElem?_eq_getElem hkv)
        obtain ⟨b', o', rfl, hc'⟩ := (hB.below hbel).at_ hku
        have hck' := hc' k _ (List.getElem?_eq_getElem hku)
        obtain ⟨A1, c1, e1, _, hA1⟩ := (hvi k _ _ (List.getElem?_eq_getElem hkv) (List.getElem?_eq_getElem hlt)).below hbel
        obtain ⟨B1, d1, e2, _, hB1⟩ := (hui k _ _ (List.getElem?_eq_getElem hku) (List.getElem?_eq_getElem hlt2)).below hbel
        rw [e1] at hck
        rw [e2] at hck'
        have hs1 := hsx _ (List.getElem_mem hlt)
        have hs2 := hsy _ (List.getElem_mem hlt2)
        have HX := Lib.hid (List.getElem?_eq_getElem hlt)
        have HY := Lib.hid (List.getElem?_eq_getElem hlt2)
        clear hc hc' hA hB hvi hui e1 e2 hsx hsy
        generalize xss[k] = x at *
        generalize yss[k] = y at *
        have H := Lib.hid (eqIntS_any A1 B1 c1 d1 x y wr.drew hs1 hs2 hA1 hB1)
        have b0 : (0 : Int) ≤ (k : Int) := by omega
        have b1 : (k : Int) < (xss.length : Int) := by omega
        have b2 : (k : Int) < (yss.length : Int) := by omega
        clear hA1 hB1
        by_cases hx : sameI x y = true
        · go_wp2
          go_still_tail 8, (by kernel_rfl)
          change wpList _ _ _ _ _ wr.drew
          go_wp2_with ((with_reducible refine H.out.mono ?_); rintro e w1 ⟨rfl, hb1⟩)
          go_roundw
          case rel =>
            refine ⟨k + 1, by omega, by go_num, fun j x' y' hj h1 h2 => ?_, hbel.drew.trans (hb1.mono hbel.size)⟩
            rcases Nat.lt_succ_iff_lt_or_eq.1 hj with h | h
            · exact HS.out j x' y' h h1 h2
            · subst h
              have e1 := HX.out
              have e2 := HY.out
              rw [h1] at e1
              rw [h2] at e2
              injection e1 with e1
              injection e2 with e2
              subst e1
              subst e2
              exact hx
          case measure => simp [intOf]; omega
        · have hx' : sameI x y = false := by simpa using hx
          clear hx
          have HE := Lib.hid (sameSS_at HX.out HY.out hx')
          go_wp2
          go_still_tail 8, (by kernel_rfl)
          change wpList _ _ _ _ _ wr.drew
          go_wp2_with ((with_reducible refine H.out.mono ?_); rintro e w1 ⟨rfl, hb1⟩)
          go_ret
          exact ⟨by rw [HE.out]; rfl, hbel.drew.trans (hb1.mono hbel.size)⟩
      · obtain rfl : k = xss.length := by omega
        have HE := Lib.hid (sameSS_all HL.out (fun j x y h1 h2 => HS.out j x y (List.getElem?_eq_some_iff.1 h1).1 h1 h2))
        go_wp2
        go_ret
        exact ⟨by rw [HE.out]; rfl, hbel⟩
  · have hl' : ((xss.length : Int) == (yss.length : Int)) = false := by rw [beq_eq_false_iff_ne]; omega
    have hl'' : ((xss.length : Int) != (yss.length : Int)) = true := by rw [bne_iff_ne]; omega
    have HE := Lib.hid (sameSS_len hl)
    clear hl
    go_enter Tryz.func67, Tryz.ntmps67
    go_wp2
    go_ret
    exact ⟨by rw [HE.out]; rfl, Below.refl _ _⟩

def sameA3 (xs ys : List I3) : Bool := decide (xs = ys)

theorem sameA3_len {xs ys : List I3} (h : xs.length ≠ ys.length) : sameA3 xs ys = false := by
  unfold sameA3; rw [decide_eq_false_iff_not]; intro e; exact h (by rw [e])
theorem sameA3_at {xs ys : List I3} {k : Nat} {x y : I3} (hx : xs[k]? = some x) (hy : ys[k]? = some y) (h : same3 x y = false) : sameA3 xs ys = false := by
  unfold same3 at h
  unfold sameA3
  rw [decide_eq_false_iff_not] at h ⊢
  intro e
  subst e
  rw [hx] at hy
  injection hy with hy
  exact h hy
theorem sameA3_all {xs ys : List I3} (hl : xs.length = ys.length) (h : ∀ (j : Nat) x y, xs[j]? = some x → ys[j]? = some y → same3 x y = true) : sameA3 xs ys = true := by
  unfold sameA3
  rw [decide_eq_true_iff]
  apply List.ext_getElem hl
  intro i h1 h2
  simpa [same3] using h i _ _ (List.getElem?_eq_getElem h1) (List.getElem?_eq_getElem h2)

theorem tri_at (l : List I3) : ∀ (k : Nat) (t : I3), l[k]? = some t → (l.flatMap tri)[k * 3]? = some (.int .i64 t.1) ∧ (l.flatMap tri)[k * 3 + 1]? = some (.int .i64 t.2.1) ∧ (l.flatMap tri)[k * 3 + 2]? = some (.int .i64 t.2.2) := by
  induction l with
  | nil => intro k t h; simp at h
  | cons a r ih =>
    intro k t h
    cases k with
    | zero =>
      simp at h
      subst h
      simp [tri]
    | succ k =>
      have := ih k t (by simpa using h)
      have e0 : (k + 1) * 3 = k * 3 + 3 := by omega
      have e1 : k * 3 + 3 + 1 = k * 3 + 1 + 3 := by omega
      have e2 : k * 3 + 3 + 2 = k * 3 + 2 + 3 := by omega
      rw [e0, e1, e2]
      simp only [List.flatMap_cons, tri]
      exact this

theorem RA3.at_ {w : World} {v : Value} {l : List I3} (h : RA3 w v l) {k : Nat} {t : I3} (hk : l[k]? = some t) :
    ∃ b o c, v = .slice (some ⟨b, o, none⟩) l.length c ∧ w.cell? ⟨b, o + k * 3, none⟩ = some (.int .i64 t.1) ∧ w.cell? ⟨b, o + k * 3 + 1, none⟩ = some (.int .i64 t.2.1) ∧ w.cell? ⟨b, o + k * 3 + 2, none⟩ = some (.int .i64 t.2.2) := by
  obtain ⟨A, c, rfl, _, hc⟩ := h
  obtain ⟨h0, h1, h2⟩ := tri_at l k t hk
  obtain ⟨b, o, rfl, hcc⟩ := hc.at_ (List.getElem?_eq_some_iff.1 h0).1
  exact ⟨b, o, c, rfl, hcc _ _ h0, hcc _ _ h1, hcc _ _ h2⟩

set_option maxRecDepth 100000 in
set_option maxHeartbeats 1000000 in
theorem eqIntA3S_any (v u : Value) (xss yss : List I3) (w : World) (hv : RA3 w v xss) (hu : RA3 w u yss) (hn : xss.length ≤ 16777216) (hm : yss.length ≤ 16777216) :
    Calls Tryz.prog 68 #[v, u] w fun e w' => e = .returned (.bool (sameA3 xss yss)) ∧ Below w.heap.size w w' := by
  have hv' := hv
  have hu' := hu
  obtain ⟨A, c, rfl, _, hA⟩ := hv
  obtain ⟨B, d, rfl, _, hB⟩ := hu
  by_cases hl : xss.length = yss.length
  · have hl' : ((xss.length : Int) == (yss.length : Int)) = true := by simp [hl]
    have hl'' : ((xss.length : Int) != (yss.length : Int)) = false := by simp [hl]
    have HL := Lib.hid hl
    clear hl
    go_enter Tryz.func68, Tryz.ntmps68
    go_wp2
    go_loopw [5] (fun i wr => ∃ k : Nat, k ≤ xss.length ∧ i = .int .i64 k ∧ (∀ (j : Nat) x y, j < k → xss[j]? = some x → yss[j]? = some y → same3 x y = true) ∧ Below w.heap.size w wr)
      (fun i _ => xss.length - (intOf i).toNat)
    case atStart => exact ⟨0, Nat.zero_le _, rfl, fun j _ _ hj => by omega, Below.refl _ _⟩
    case round =>
      obtain ⟨k, hk, rfl, hsame, hbel⟩ := hrel
      have HS := Lib.hid hsame
      clear hsame
      by_cases hlt : k < xss.length
      · have hlt2 : k < yss.length := by have := HL.out; omega
        obtain ⟨b, o, c', ev, hc0, hc1, hc2⟩ := (hv'.below hbel).at_ (List.getElem?_eq_getElem hlt)
        obtain ⟨b', o', d', eu, hd0, hd1, hd2⟩ := (hu'.below hbel).at_ (List.getElem?_eq_getElem hlt2)
        cases ev
        cases eu
        have HX := Lib.hid (List.getElem?_eq_getElem hlt)
        have HY := Lib.hid (List.getElem?_eq_getElem hlt2)
        clear hA hB hv' hu'
        generalize xss[k] = x at *
        generalize yss[k] = y at *
        have H := Lib.hid (eqIntA3_any x y wr.drew)
        have b0 : (0 : Int) ≤ (k : Int) := by omega
        have b1 : (k : Int) < (xss.length : Int) := by omega
        have b2 : (k : Int) < (yss.length : Int) := by omega
        by_cases hx : same3 x y = true
        · go_wp2
          go_still_tail 8, (by kernel_rfl)
          change wpList _ _ _ _ _ wr.drew
          go_wp2_with ((with_reducible refine H.out.mono ?_); rintro e w1 ⟨rfl, hb1⟩)
          go_roundw
          case rel =>
            refine ⟨k + 1, by omega, by go_num, fun j x' y' hj h1 h2 => ?_, hbel.drew.trans (hb1.mono hbel.size)⟩
            rcases Nat.lt_succ_iff_lt_or_eq.1 hj with h | h
            · exact HS.out j x' y' h h1 h2
            · subst h
              have e1 := HX.out
              have e2 := HY.out
              rw [h1] at e1
              rw [h2] at e2
              injection e1 with e1
              injection e2 with e2
              subst e1
              subst e2
              exact hx
          case measure => simp [intOf]; omega
        · have hx' : same3 x y = false := by simpa using hx
          clear hx
          have HE := Lib.hid (sameA3_at HX.out HY.out hx')
          go_wp2
          go_still_tail 8, (by kernel_rfl)
          change wpList _ _ _ _ _ wr.drew
          go_wp2_with ((with_reducible refine H.out.mono ?_); rintro e w1 ⟨rfl, hb1⟩)
          go_ret
          exact ⟨by rw [HE.out]; rfl, hbel.drew.trans (hb1.mono hbel.size)⟩
      · obtain rfl : k = xss.length := by omega
        have HE := Lib.hid (sameA3_all HL.out (fun j x y h1 h2 => HS.out j x y (List.getElem?_eq_some_iff.1 h1).1 h1 h2))
        go_wp2
        go_ret
        exact ⟨by rw [HE.out]; rfl, hbel⟩
  · have hl' : ((xss.length : Int) == (yss.length : Int)) = false := by rw [beq_eq_false_iff_ne]; omega
    have hl'' : ((xss.length : Int) != (yss.length : Int)) = true := by rw [bne_iff_ne]; omega
    have HE := Lib.hid (sameA3_len hl)
    clear hl
    go_enter Tryz.func68, Tryz.ntmps68
    go_wp2
    go_ret
    exact ⟨by rw [HE.out]; rfl, Below.refl _ _⟩

def sameLab (a b : Lab) : Bool := sameSS a.shows b.shows && sameA3 a.steps b.steps

/-- The sizes for which the law package's helpers have their contracts. -/
def SmallLab (l : Lab) : Prop := l.shows.length ≤ 16777216 ∧ l.steps.length ≤ 16777216 ∧ Small l.shows

set_option maxHeartbeats 1000000 in
theorem eqLabelled_any (v u : Value) (a b : Lab) (w : World) (hv : RLab w v a) (hu : RLab w u b) (ha : SmallLab a) (hb : SmallLab b) :
    Calls Tryz.prog 20 #[v, u] w fun e w' => e = .returned (.bool (sameLab a b)) ∧ Below w.heap.size w w' := by
  obtain ⟨sv, tv, rfl, hs, ht⟩ := hv
  obtain ⟨su, tu, rfl, hs', ht'⟩ := hu
  have hb1 : ∀ o1 o2, Below w.heap.size w ((w.alloc o1).alloc o2) := fun o1 o2 => ((Below.refl _ _).alloc (Nat.le_refl _) o1).alloc (by simp) o2
  have H1 := Lib.hid (fun o1 o2 => eqIntSS_any sv su a.shows b.shows ((w.alloc o1).alloc o2) (hs.below (hb1 _ _)) (hs'.below (hb1 _ _)) ha.1 hb.1 ha.2.2 hb.2.2)
  go_enter Tryz.func20, Tryz.ntmps20
  go_wp2_with fail
  refine (H1.out _ _).mono ?_
  rintro e w1 ⟨rfl, hw1⟩
  have c1 : w1.cell? ⟨w.heap.size, 1, none⟩ = some tv := by rw [hw1.cell (by simp; omega)]; simp
  have c2 : w1.cell? ⟨w.heap.size + 1, 1, none⟩ = some tu := by rw [hw1.cell (by simp)]; simp
  have hz := (hb1 _ _).trans (hw1.mono (hb1 _ _).size)
  have H2 := Lib.hid (eqIntA3S_any tv tu a.steps b.steps w1 (ht.below hz) (ht'.below hz) ha.2.1 hb.2.1)
  have HZ := Lib.hid hz
  clear hw1 hz
  cases hx : sameSS a.shows b.shows
  · go_wp2_with fail
    go_ret
    exact ⟨by simp [sameLab, hx], HZ.out⟩
  · go_wp2_with ((with_reducible refine H2.out.mono ?_); rintro e w2 ⟨rfl, hw2⟩)
    all_goals (go_ret; refine ⟨?_, HZ.out.trans (hw2.mono HZ.out.size)⟩; simp_all [sameLab])

end Go.Proofs.YtdgnhfhaaghoaaaGreatDoor
