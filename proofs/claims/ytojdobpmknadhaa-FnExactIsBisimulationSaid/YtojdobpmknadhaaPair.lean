/- Slices of pairs: read, copied, compared, searched: the law package's helpers and the library walked. -/
import Derived.Test.YtojdobpmknadhaaProg
import Derived.Test.YtojdobpmknadhaaLabOwn
import Derived.Test.YtojdobpmknadhaaIdx
import Derived.StillTailTactics
set_option linter.unusedVariables false
namespace Go.Proofs.Ytojdobpmknadhaa
open Go.RowKit

abbrev I2 := Int × Int
def duo (t : I2) : List Value := [.int .i64 t.1, .int .i64 t.2]
def RA2 (w : World) (v : Value) (l : List I2) : Prop := ∃ A c, v = .slice A l.length c ∧ l.length ≤ maxLen ∧ Cells w A (l.flatMap duo)
theorem RA2.below {w w' : World} {v : Value} {l : List I2} (h : RA2 w v l) (hb : Below w.heap.size w w') : RA2 w' v l := by
  obtain ⟨A, c, e, hm, hc⟩ := h
  exact ⟨A, c, e, hm, hc.below hb⟩
theorem duo_at (l : List I2) : ∀ (k : Nat) (t : I2), l[k]? = some t → (l.flatMap duo)[k * 2]? = some (.int .i64 t.1) ∧ (l.flatMap duo)[k * 2 + 1]? = some (.int .i64 t.2) := by
  induction l with
  | nil => intro k t h; simp at h
  | cons a r ih =>
    intro k t h
    cases k with
    | zero =>
      simp at h
      subst h
      simp [duo]
    | succ k =>
      have := ih k t (by simpa using h)
      have e0 : (k + 1) * 2 = k * 2 + 2 := by omega
      have e1 : k * 2 + 2 + 1 = k * 2 + 1 + 2 := by omega
      rw [e0, e1]
      simp only [List.flatMap_cons, duo]
      exact this
theorem RA2.at_ {w : World} {v : Value} {l : List I2} (h : RA2 w v l) {k : Nat} {t : I2} (hk : l[k]? = some t) :
    ∃ b o c, v = .slice (some ⟨b, o, none⟩) l.length c ∧ w.cell? ⟨b, o + k * 2, none⟩ = some (.int .i64 t.1) ∧ w.cell? ⟨b, o + k * 2 + 1, none⟩ = some (.int .i64 t.2) := by
  obtain ⟨A, c, rfl, _, hc⟩ := h
  obtain ⟨h0, h1⟩ := duo_at l k t hk
  obtain ⟨b, o, rfl, hcc⟩ := hc.at_ (List.getElem?_eq_some_iff.1 h0).1
  exact ⟨b, o, c, rfl, hcc _ _ h0, hcc _ _ h1⟩
theorem duo_len (l : List I2) : (l.flatMap duo).length = l.length * 2 := by
  induction l with
  | nil => rfl
  | cons a r ih => rw [List.flatMap_cons, List.length_append, ih]; simp [duo]; omega

set_option maxHeartbeats 400000 in
theorem szIntA2S_any (A : Option Addr) (n c : Nat) (left : Int) (w : World) (hn : n ≤ maxLen) (h0 : 0 ≤ left) (h1 : left ≤ 1048576) :
    Calls Try.prog 16 #[.slice A n c, .int .i64 left] w fun e w' => e = .returned (.int .i64 (szRow n left)) ∧ w = w' := by
  have hn' : (n : Int) ≤ 9223372036854775807 := by unfold maxLen at hn; omega
  clear hn
  unfold szRow
  by_cases hl : left - (n : Int) < 0
  · rw [if_pos hl]
    go_enter Try.func16, Try.ntmps16
    go_wp2
    go_ret
    exact ⟨rfl, rfl⟩
  · rw [if_neg hl]
    go_enter Try.func16, Try.ntmps16
    go_wp2
    go_ret
    exact ⟨rfl, rfl⟩

set_option maxHeartbeats 1000000 in
theorem toIntA2_any (x y : Int) (w : World) :
    Calls Try.prog 50 #[.agg #[.int .i64 x, .int .i64 y]] w fun e w' => e = .returned (.agg #[.int .i64 x, .int .i64 y]) ∧ Below w.heap.size w w' := by
  go_enter Try.func50, Try.ntmps50
  go_wp2
  go_rounds 3
  exact bodyPost_ret (v := .agg #[.int .i64 x, .int .i64 y]) (by simp [results, Try.results50, go_sem]) rfl
    ⟨rfl, (((Below.refl _ _).alloc (Nat.le_refl _) _).alloc (by simp) _).alloc (by simp; omega) _⟩

def same2 (t u : I2) : Bool := decide (t = u)

set_option maxHeartbeats 1000000 in
theorem eqIntA2_any (t u : I2) (w : World) :
    Calls Try.prog 56 #[.agg #[.int .i64 t.1, .int .i64 t.2], .agg #[.int .i64 u.1, .int .i64 u.2]] w fun e w' => e = .returned (.bool (same2 t u)) ∧ Below w.heap.size w w' := by
  obtain ⟨x, y⟩ := t
  obtain ⟨x', y'⟩ := u
  by_cases hx : x = x'
  · subst hx
    by_cases hy : y = y'
    · subst hy
      have hx : (x != x) = false := by rw [bne_self_eq_false]
      have hy : (y != y) = false := by rw [bne_self_eq_false]
      have HE := Lib.hid (show same2 (x, y) (x, y) = true by simp [same2])
      go_enter Try.func56, Try.ntmps56
      go_wp2
      refine wp_loop_rounds 3 ?_
      rw [rounds_succ]
      go_wp2
      go_quiet (fail)
      go_wp2
      rw [rounds_succ]
      go_wp2
      go_quiet (fail)
      go_wp2
      rw [rounds_succ]
      go_wp2
      go_ret
      rw [HE.out]
      exact ⟨rfl, by (repeat apply below_drewN'); exact ((Below.refl _ _).alloc (Nat.le_refl _) _).alloc (by simp) _⟩
    · have hx : (x != x) = false := by rw [bne_self_eq_false]
      have hb : (y != y') = true := by rw [bne_iff_ne]; exact hy
      have HE := Lib.hid (show same2 (x, y) (x, y') = false by simp [same2, *])
      go_enter Try.func56, Try.ntmps56
      go_wp2
      refine wp_loop_rounds 3 ?_
      rw [rounds_succ]
      go_wp2
      go_quiet (fail)
      go_wp2
      rw [rounds_succ]
      go_wp2
      go_quiet (fail)
      go_wp2
      go_ret
      rw [HE.out]
      exact ⟨rfl, by (repeat apply below_drewN'); exact ((Below.refl _ _).alloc (Nat.le_refl _) _).alloc (by simp) _⟩
  · have hb : (x != x') = true := by rw [bne_iff_ne]; exact hx
    have HE := Lib.hid (show same2 (x, y) (x', y') = false by simp [same2, *])
    go_enter Try.func56, Try.ntmps56
    go_wp2
    refine wp_loop_rounds 3 ?_
    rw [rounds_succ]
    go_wp2
    go_quiet (fail)
    go_wp2
    go_ret
    rw [HE.out]
    exact ⟨rfl, by (repeat apply below_drewN'); exact ((Below.refl _ _).alloc (Nat.le_refl _) _).alloc (by simp) _⟩

def sameA2 (xs ys : List I2) : Bool := decide (xs = ys)

theorem sameA2_len {xs ys : List I2} (h : xs.length ≠ ys.length) : sameA2 xs ys = false := by
  unfold sameA2; rw [decide_eq_false_iff_not]; intro e; exact h (by rw [e])
theorem sameA2_at {xs ys : List I2} {k : Nat} {x y : I2} (hx : xs[k]? = some x) (hy : ys[k]? = some y) (h : same2 x y = false) : sameA2 xs ys = false := by
  unfold same2 at h
  unfold sameA2
  rw [decide_eq_false_iff_not] at h ⊢
  intro e
  subst e
  rw [hx] at hy
  injection hy with hy
  exact h hy
theorem sameA2_all {xs ys : List I2} (hl : xs.length = ys.length) (h : ∀ (j : Nat) x y, xs[j]? = some x → ys[j]? = some y → same2 x y = true) : sameA2 xs ys = true := by
  unfold sameA2
  rw [decide_eq_true_iff]
  apply List.ext_getElem hl
  intro i h1 h2
  simpa [same2] using h i _ _ (List.getElem?_eq_getElem h1) (List.getElem?_eq_getElem h2)

set_option maxRecDepth 100000 in
set_option maxHeartbeats 1000000 in
theorem eqIntA2S_any (v u : Value) (xss yss : List I2) (w : World) (hv : RA2 w v xss) (hu : RA2 w u yss) (hn : xss.length ≤ 16777216) (hm : yss.length ≤ 16777216) :
    Calls Try.prog 20 #[v, u] w fun e w' => e = .returned (.bool (sameA2 xss yss)) ∧ Below w.heap.size w w' := by
  have hv' := hv
  have hu' := hu
  obtain ⟨A, c, rfl, _, hA⟩ := hv
  obtain ⟨B, d, rfl, _, hB⟩ := hu
  by_cases hl : xss.length = yss.length
  · have hl' : ((xss.length : Int) == (yss.length : Int)) = true := by simp [hl]
    have hl'' : ((xss.length : Int) != (yss.length : Int)) = false := by simp [hl]
    have HL := Lib.hid hl
    clear hl
    go_enter Try.func20, Try.ntmps20
    go_wp2
    go_loopw [5] (fun i wr => ∃ k : Nat, k ≤ xss.length ∧ i = .int .i64 k ∧ (∀ (j : Nat) x y, j < k → xss[j]? = some x → yss[j]? = some y → same2 x y = true) ∧ Below w.heap.size w wr)
      (fun i _ => xss.length - (intOf i).toNat)
    case atStart => exact ⟨0, Nat.zero_le _, rfl, fun j _ _ hj => by omega, Below.refl _ _⟩
    case round =>
      obtain ⟨k, hk, rfl, hsame, hbel⟩ := hrel
      have HS := Lib.hid hsame
      clear hsame
      by_cases hlt : k < xss.length
      · have hlt2 : k < yss.length := by have := HL.out; omega
        obtain ⟨b, o, c', ev, hc0, hc1⟩ := (hv'.below hbel).at_ (List.getElem?_eq_getElem hlt)
        obtain ⟨b', o', d', eu, hd0, hd1⟩ := (hu'.below hbel).at_ (List.getElem?_eq_getElem hlt2)
        cases ev
        cases eu
        have HX := Lib.hid (List.getElem?_eq_getElem hlt)
        have HY := Lib.hid (List.getElem?_eq_getElem hlt2)
        clear hA hB hv' hu'
        generalize xss[k] = x at *
        generalize yss[k] = y at *
        have H := Lib.hid (eqIntA2_any x y wr.drew)
        have b0 : (0 : Int) ≤ (k : Int) := by omega
        have b1 : (k : Int) < (xss.length : Int) := by omega
        have b2 : (k : Int) < (yss.length : Int) := by omega
        by_cases hx : same2 x y = true
        · go_wp2
          go_still_tail 8, (by kernel_rfl)
          change wpList _ _ _ _ _ wr.drew
          go_wp2_with ((with_reducible refine H.out.mono ?_); rintro e w1 ⟨rfl, hb1⟩)
          go_roundw
          case rel =>
            refine ⟨k + 1, by omega, by go_num, fun j x' y' hj h1 h2 => ?_, hbel.drew.trans (hb1.mono hbel.size)⟩
            rcases Nat.lt_succ_iff_lt_or_eq.1 hj with h | h
            · exact HS.out j x' y' h h1 h2
            · subst h
              have e1 := HX.out
              have e2 := HY.out
              rw [h1] at e1
              rw [h2] at e2
              injection e1 with e1
              injection e2 with e2
              subst e1
              subst e2
              exact hx
          case measure => simp [intOf]; omega
        · have hx' : same2 x y = false := by simpa using hx
          clear hx
          have HE := Lib.hid (sameA2_at HX.out HY.out hx')
          go_wp2
          go_still_tail 8, (by kernel_rfl)
          change wpList _ _ _ _ _ wr.drew
          go_wp2_with ((with_reducible refine H.out.mono ?_); rintro e w1 ⟨rfl, hb1⟩)
          go_ret
          exact ⟨by rw [HE.out]; rfl, hbel.drew.trans (hb1.mono hbel.size)⟩
      · obtain rfl : k = xss.length := by omega
        have HE := Lib.hid (sameA2_all HL.out (fun j x y h1 h2 => HS.out j x y (List.getElem?_eq_some_iff.1 h1).1 h1 h2))
        go_wp2
        go_ret
        exact ⟨by rw [HE.out]; rfl, hbel⟩
  · have hl' : ((xss.length : Int) == (yss.length : Int)) = false := by rw [beq_eq_false_iff_ne]; omega
    have hl'' : ((xss.length : Int) != (yss.length : Int)) = true := by rw [bne_iff_ne]; omega
    have HE := Lib.hid (sameA2_len hl)
    clear hl
    go_enter Try.func20, Try.ntmps20
    go_wp2
    go_ret
    exact ⟨by rw [HE.out]; rfl, Below.refl _ _⟩

theorem info_a2 : (Try.prog.info? 64).map (fun i => (i.zero, i.size, i.bytes)) = some (some (.agg #[.int .i64 0, .int .i64 0]), 2, 16) := by kernel_rfl
theorem made2 (n : Nat) : (madeCells #[Value.int .i64 0, .int .i64 0] n).toList = List.replicate n (.int .i64 0) := by
  apply List.ext_getElem?
  intro j
  by_cases hj : j < n
  · simp [madeCells, hj]
    rcases (show j % 2 = 0 ∨ j % 2 = 1 by omega) with h | h <;> rw [h] <;> rfl
  · simp [madeCells, hj]

/-- What a loop has copied into a row of zero pairs after k rounds. -/
def fillD (l : List I2) (k : Nat) : List Value := (l.take k).flatMap duo ++ List.replicate ((l.length - k) * 2) (.int .i64 0)
theorem fillD_set (l : List I2) (k : Nat) (t : I2) (h : l[k]? = some t) :
    ((fillD l k).set (k * 2) (.int .i64 t.1)).set (k * 2 + 1) (.int .i64 t.2) = fillD l (k + 1) := by
  have hl := (List.getElem?_eq_some_iff.1 h).1
  have e1 : l.take (k + 1) = l.take k ++ [t] := by
    rw [List.take_succ_eq_append_getElem hl]
    rw [List.getElem?_eq_getElem hl] at h
    injection h with h
    rw [h]
  have e2 : (l.length - k) * 2 = (l.length - (k + 1)) * 2 + 1 + 1 := by omega
  have e3 : ((l.take k).flatMap duo).length = k * 2 := by rw [duo_len, List.length_take]; omega
  unfold fillD
  rw [e1, e2, List.flatMap_append, List.replicate_succ, List.replicate_succ]
  generalize (l.take k).flatMap duo = P at e3
  rw [List.set_append_right _ _ (by omega), List.set_append_right _ _ (by omega), e3]
  simp [duo, List.set_cons_succ, show k * 2 + 1 - k * 2 = 1 by omega]
theorem fillD_at (l : List I2) (k j : Nat) (h : k < l.length) (hj : j < 2) : (fillD l k)[k * 2 + j]? = some (.int .i64 0) := by
  unfold fillD
  have e3 : ((l.take k).flatMap duo).length = k * 2 := by rw [duo_len, List.length_take]; omega
  rw [List.getElem?_append_right (by omega), e3, List.getElem?_replicate, if_pos (by omega)]

set_option maxRecDepth 100000 in
set_option maxHeartbeats 1000000 in
theorem toIntA2S_any (v : Value) (l : List I2) (w : World) (hv : RA2 w v l) (hn : l.length ≤ 16777216) :
    Calls Try.prog 18 #[v] w fun e w' => ∃ u, e = .returned u ∧ w'.ownsRow w.heap.size 64 2 u l.length (l.flatMap duo) ∧ Below w.heap.size w w' := by
  obtain ⟨i0, hi, hz0, hz1, hz2⟩ := info_parts info_a2
  have hv' := hv
  obtain ⟨A, c, rfl, _, hA⟩ := hv
  go_enter Try.func18, Try.ntmps18
  go_wp2_with (first | (at_make; refine wpList_make_full _ rfl _ _ 37 rfl w.heap.size 64 i0 _ 2 Try.underlying37 hi hz0 hz1 _ _ _ _ l.length rfl rfl rfl rfl (by rw [hz2]; omega) (by unfold maxLen; omega) (Nat.le_refl _) ?_; intro w1 hown hgrow))
  have hz : (madeCells (Value.agg #[.int .i64 0, .int .i64 0]).cells (l.length * 2)).toList = fillD l 0 := by
    show (madeCells #[_, _] _).toList = _
    rw [made2]
    rfl
  rw [hz] at hown
  have hbel : Below w.heap.size w w1 := (Below.refl _ _).grown hgrow (Nat.le_refl _) (by simp)
  clear hz hgrow
  go_loopw [4] (fun i wr => ∃ (k : Nat), k ≤ l.length ∧ i = .int .i64 k ∧
      wr.ownsRow w.heap.size 64 2 (.slice (some ⟨w.heap.size, 0, none⟩) l.length l.length) l.length (fillD l k) ∧ Below w.heap.size w wr)
    (fun i _ => l.length - (intOf i).toNat)
  case atStart => exact ⟨0, Nat.zero_le _, rfl, hown, hbel⟩
  case round =>
    clear hown hbel
    obtain ⟨k, hk, rfl, hown, hbel⟩ := hrel
    by_cases hlt : k < l.length
    · obtain ⟨b, o, c', ev, hc0, hc1⟩ := (hv'.below hbel).at_ (List.getElem?_eq_getElem hlt)
      cases ev
      have HX := Lib.hid (List.getElem?_eq_getElem hlt)
      clear hA hv'
      generalize l[k] = x at *
      have H := Lib.hid (toIntA2_any x.1 x.2 wr)
      have HO := Lib.hid hown
      have HB := Lib.hid hbel
      clear hown hbel
      go_wp2_with fail
      refine H.out.mono ?_
      rintro e w1 ⟨rfl, hb1⟩
      have hlw := (HO.out.lt w.heap.size rfl).2
      have hown := owns_below HO.out hb1 (Nat.le_refl _)
      have f0 : w1.cell? ⟨w.heap.size, k * 2, none⟩ = some (.int .i64 0) := by rw [hown.cellAt _ (by omega)]; exact fillD_at l k 0 hlt (by omega)
      have f1 : w1.cell? ⟨w.heap.size, k * 2 + 1, none⟩ = some (.int .i64 0) := by rw [hown.cellAt _ (by omega)]; exact fillD_at l k 1 hlt (by omega)
      have g0 := hown.frozenAt (k * 2)
      have g1 := hown.frozenAt (k * 2 + 1)
      have HO1 := Lib.hid hown
      have HB1 := Lib.hid hb1
      clear hown hb1
      go_wp2
      go_roundw
      case rel =>
        refine ⟨k + 1, by omega, by go_num, ?_, ?_⟩
        · rw [← fillD_set l k x HX.out]
          exact ((HO1.out.stored _ _).1.stored _ _).1
        · exact ((HB.out.trans (HB1.out.mono HB.out.size)).setCell (Nat.le_refl _) _).setCell (Nat.le_refl _) _
      case measure => simp [intOf]; omega
    · obtain rfl : k = l.length := by omega
      have hf : fillD l l.length = l.flatMap duo := by simp [fillD]
      rw [hf] at hown
      have HO := Lib.hid hown
      have HB := Lib.hid hbel
      clear hown hbel
      go_wp2
      go_ret
      exact ⟨_, rfl, HO.out, HB.out⟩

set_option maxRecDepth 100000 in
set_option maxHeartbeats 1000000 in
theorem indexFuncD_any (v : Value) (l : List I2) (F : FuncId) (cap : Array Value) (p : Nat → Bool) (w : World) (hn : l.length ≤ 16777216) (hv : RA2 w v l)
    (hF : ∀ (args : Array Value) (w : World), (callFunc F args).run Try.prog w = .ok (.enter F args) w)
    (hcall : ∀ (k : Nat) (x : I2) (W : World), l[k]? = some x → Below w.heap.size w W → Calls Try.prog F (#[.agg #[.int .i64 x.1, .int .i64 x.2]] ++ cap) W fun e W' => e = .returned (.bool (p k)) ∧ Below W.heap.size W W') :
    Calls Try.prog 83 #[v, .func (.func F) #[] cap] w fun e w' => e = .returned (.int .i64 (idxR l.length p)) ∧ Below w.heap.size w w' := by
  have HC := Lib.hid hcall
  have HV := Lib.hid (show ∀ W, Below w.heap.size w W → RA2 W v l from fun W hb => hv.below hb)
  obtain ⟨A, c, rfl, hm, _⟩ := hv
  clear hcall hm
  go_enter Try.func83, Try.ntmps83
  go_wp2_with fail
  go_loopw [8] (fun i wr => ∃ k : Nat, k ≤ l.length ∧ i = .int .i64 k ∧ (∀ j, j < k → p j = false) ∧ Below w.heap.size w wr)
    (fun i _ => l.length - (intOf i).toNat)
  case atStart => exact ⟨0, Nat.zero_le _, rfl, fun j hj => by omega, Below.refl _ _⟩
  case round =>
    obtain ⟨k, hk, rfl, hall, hbel⟩ := hrel
    have HALL := Lib.hid hall
    clear hall
    by_cases hlt : k < l.length
    · obtain ⟨b, o, c', ev, k0, k1⟩ := (HV.out wr hbel).at_ (List.getElem?_eq_getElem hlt)
      cases ev
      have H := Lib.hid (HC.out k _ wr (List.getElem?_eq_getElem hlt) hbel)
      generalize l[k] = x at *
      have HB := Lib.hid hbel
      clear hbel
      cases hp : p k
      · have HN := Lib.hid (none_next HALL.out hp)
        rw [hp] at H
        clear hp
        go_wp2_with ((with_reducible refine H.out.mono ?_); rintro e w1 ⟨rfl, hb1⟩)
        go_roundw
        case rel => exact ⟨k + 1, by omega, by go_num, HN.out, HB.out.trans (hb1.mono HB.out.size)⟩
        case measure => simp [intOf]; omega
      · have HE := Lib.hid (idxR_some hlt HALL.out hp)
        rw [hp] at H
        clear hp
        go_wp2_with ((with_reducible refine H.out.mono ?_); rintro e w1 ⟨rfl, hb1⟩)
        go_ret
        exact ⟨by rw [HE.out]; rfl, HB.out.trans (hb1.mono HB.out.size)⟩
    · obtain rfl : k = l.length := by omega
      have HE := Lib.hid (idxR_none HALL.out)
      go_wp2
      go_ret
      exact ⟨by rw [HE.out]; rfl, hbel⟩

set_option maxHeartbeats 1000000 in
theorem containsFuncD_any (v : Value) (l : List I2) (F : FuncId) (cap : Array Value) (p : Nat → Bool) (w : World) (hn : l.length ≤ 16777216) (hv : RA2 w v l)
    (hF : ∀ (args : Array Value) (w : World), (callFunc F args).run Try.prog w = .ok (.enter F args) w)
    (hcall : ∀ (k : Nat) (x : I2) (W : World), l[k]? = some x → Below w.heap.size w W → Calls Try.prog F (#[.agg #[.int .i64 x.1, .int .i64 x.2]] ++ cap) W fun e W' => e = .returned (.bool (p k)) ∧ Below W.heap.size W W') :
    Calls Try.prog 51 #[v, .func (.func F) #[] cap] w fun e w' => e = .returned (.bool (anyR l.length p)) ∧ Below w.heap.size w w' := by
  have H := Lib.hid (indexFuncD_any v l F cap p w hn hv hF hcall)
  have HI := Lib.hid (idxR_any l.length p)
  obtain ⟨A, c, rfl, hm, _⟩ := hv
  clear hF hcall hm
  go_enter Try.func51, Try.ntmps51
  go_wp2_with ((with_reducible refine H.out.mono ?_); rintro e w1 ⟨rfl, hb1⟩)
  go_ret
  exact ⟨by rw [← HI.out]; rfl, hb1⟩

end Go.Proofs.Ytojdobpmknadhaa
