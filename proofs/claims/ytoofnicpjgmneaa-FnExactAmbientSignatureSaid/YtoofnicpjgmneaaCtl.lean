/- Controls: the walks of the law package's helpers, the signature of ambients of program and reference, and the law that they agree. -/
import Derived.Test.YtoofnicpjgmneaaProg
import Derived.Test.YtoofnicpjgmneaaAgg
import Derived.Test.YtoofnicpjgmneaaText
import Derived.StillTailTactics
import Derived.Handy
set_option linter.unusedVariables false
namespace Go.Proofs.Ytoofnicpjgmneaa
open Go.RowKit

abbrev Ctl := ByteArray × Int × Int
def encC (c : Ctl) : List Value := [.string c.1, .int .i64 c.2.1, .int .i64 c.2.2]
def RC (_ : World) (cs : List Value) (c : Ctl) : Prop := cs = encC c
def OC (_ : World) (_ : Nat → Prop) (cs : List Value) (c : Ctl) : Prop := cs = encC c
theorem RC_keep : KeepR RC := fun _ _ _ _ h _ => h
theorem OC_keep : KeepO OC := ⟨fun _ _ _ _ _ _ h _ _ => h, fun _ _ _ _ _ h _ => h⟩

set_option maxHeartbeats 1000000 in
theorem eqControl_any (a b : Ctl) (w : World) :
    Calls Try.prog 10 #[.agg #[.string a.1, .int .i64 a.2.1, .int .i64 a.2.2], .agg #[.string b.1, .int .i64 b.2.1, .int .i64 b.2.2]] w fun e w' => e = .returned (.bool (sameT a b)) ∧ Below w.heap.size w w' := by
  obtain ⟨x, y, z⟩ := a
  obtain ⟨x', y', z'⟩ := b
  by_cases hx : x = x'
  · subst hx
    by_cases hy : y = y'
    · subst hy
      by_cases hz : z = z'
      · subst hz
        have h1 : (y != y) = false := by rw [bne_self_eq_false]
        have h2 : (z != z) = false := by rw [bne_self_eq_false]
        have HE := Lib.hid (sameT_refl (x, y, z))
        go_enter Try.func10, Try.ntmps10
        go_wp2
        go_ret
        rw [HE.out]
        exact ⟨rfl, ((Below.refl _ _).alloc (Nat.le_refl _) _).alloc (by simp) _⟩
      · have h1 : (y != y) = false := by rw [bne_self_eq_false]
        have h2 : (z != z') = true := by rw [bne_iff_ne]; exact hz
        have HE := Lib.hid (sameT_ne (show (x, y, z) ≠ (x, y, z') by simpa using hz))
        clear hz
        go_enter Try.func10, Try.ntmps10
        go_wp2
        go_ret
        rw [HE.out]
        exact ⟨rfl, ((Below.refl _ _).alloc (Nat.le_refl _) _).alloc (by simp) _⟩
    · have h2 : (y != y') = true := by rw [bne_iff_ne]; exact hy
      have HE := Lib.hid (sameT_ne (show (x, y, z) ≠ (x, y', z') by intro e; simp at e; exact hy e.1))
      clear hy
      go_enter Try.func10, Try.ntmps10
      go_wp2
      go_ret
      rw [HE.out]
      exact ⟨rfl, ((Below.refl _ _).alloc (Nat.le_refl _) _).alloc (by simp) _⟩
  · have HE := Lib.hid (sameT_ne (show (x, y, z) ≠ (x', y', z') by intro e; simp at e; exact hx e.1))
    have hs := str_ne hx
    clear hx
    go_enter Try.func10, Try.ntmps10
    go_wp2
    go_ret
    rw [HE.out]
    exact ⟨rfl, ((Below.refl _ _).alloc (Nat.le_refl _) _).alloc (by simp) _⟩

set_option maxRecDepth 100000 in
set_option maxHeartbeats 2000000 in
theorem eqControlS_any (v u : Value) (xs ys : List Ctl) (w : World) (hv : RSl RC 3 w v xs) (hu : RSl RC 3 w u ys) (hn : xs.length ≤ 16777216) (hm : ys.length ≤ 16777216) :
    Calls Try.prog 6 #[v, u] w fun e w' => e = .returned (.bool (sameT xs ys)) ∧ Below w.heap.size w w' := by
  have HV := Lib.hid (show ∀ W, Below w.heap.size w W → RSl RC 3 W v xs from fun W hb => hv.below RC_keep hb)
  have HU := Lib.hid (show ∀ W, Below w.heap.size w W → RSl RC 3 W u ys from fun W hb => hu.below RC_keep hb)
  obtain ⟨A, c, rfl, _⟩ := hv.form
  obtain ⟨B, d, rfl, _⟩ := hu.form
  clear hv hu
  by_cases hl : xs.length = ys.length
  · have hl' : ((xs.length : Int) == (ys.length : Int)) = true := by simp [hl]
    have hl'' : ((xs.length : Int) != (ys.length : Int)) = false := by simp [hl]
    have HL := Lib.hid hl
    clear hl
    go_enter Try.func6, Try.ntmps6
    go_wp2
    go_loopw [5] (fun i wr => ∃ k : Nat, k ≤ xs.length ∧ i = .int .i64 k ∧ (∀ (j : Nat) x y, j < k → xs[j]? = some x → ys[j]? = some y → sameT x y = true) ∧ Below w.heap.size w wr)
      (fun i _ => xs.length - (intOf i).toNat)
    case atStart => exact ⟨0, Nat.zero_le _, rfl, fun j _ _ hj => by omega, Below.refl _ _⟩
    case round =>
      obtain ⟨k, hk, rfl, hsame, hbel⟩ := hrel
      have HS := Lib.hid hsame
      clear hsame
      by_cases hlt : k < xs.length
      · have hlt2 : k < ys.length := by have := HL.out; omega
        obtain ⟨b, o, c', cs, ev, hcl, hcr, hc⟩ := (HV.out wr hbel).at_ (by omega) (List.getElem?_eq_getElem hlt)
        obtain ⟨b', o', d', ds, eu, hdl, hdr, hd⟩ := (HU.out wr hbel).at_ (by omega) (List.getElem?_eq_getElem hlt2)
        cases ev
        cases eu
        have HX := Lib.hid (List.getElem?_eq_getElem hlt)
        have HY := Lib.hid (List.getElem?_eq_getElem hlt2)
        generalize xs[k] = x at *
        generalize ys[k] = y at *
        subst hcr
        subst hdr
        have hk0 := hc 0 _ rfl
        have hk1 := hc 1 _ rfl
        have hk2 := hc 2 _ rfl
        have gk0 := hd 0 _ rfl
        have gk1 := hd 1 _ rfl
        have gk2 := hd 2 _ rfl
        rw [← Nat.add_assoc] at hk1
        rw [← Nat.add_assoc] at hk2
        rw [Nat.add_zero] at hk0
        rw [← Nat.add_assoc] at gk1
        rw [← Nat.add_assoc] at gk2
        rw [Nat.add_zero] at gk0
        have H := Lib.hid (eqControl_any x y wr.drew)
        have b0 : (0 : Int) ≤ (k : Int) := by omega
        have b1 : (k : Int) < (xs.length : Int) := by omega
        have b2 : (k : Int) < (ys.length : Int) := by omega
        clear hc hd hcl hdl
        by_cases hx : sameT x y = true
        · go_wp2
          go_still_tail 8, (by kernel_rfl)
          change wpList _ _ _ _ _ wr.drew
          go_wp2_with ((with_reducible refine H.out.mono ?_); rintro e w1 ⟨rfl, hb1⟩)
          go_roundw
          case rel =>
            refine ⟨k + 1, by omega, by go_num, fun j x' y' hj h1 h2 => ?_, hbel.drew.trans (hb1.mono hbel.size)⟩
            rcases Nat.lt_succ_iff_lt_or_eq.1 hj with h | h
            · exact HS.out j x' y' h h1 h2
            · subst h
              have e1 := HX.out
              have e2 := HY.out
              rw [h1] at e1
              rw [h2] at e2
              injection e1 with e1
              injection e2 with e2
              subst e1
              subst e2
              exact hx
          case measure => simp [intOf]; omega
        · have hx' : sameT x y = false := by simpa using hx
          clear hx
          have HE := Lib.hid (sameT_at HX.out HY.out hx')
          go_wp2
          go_still_tail 8, (by kernel_rfl)
          change wpList _ _ _ _ _ wr.drew
          go_wp2_with ((with_reducible refine H.out.mono ?_); rintro e w1 ⟨rfl, hb1⟩)
          go_ret
          exact ⟨by rw [HE.out]; rfl, hbel.drew.trans (hb1.mono hbel.size)⟩
      · obtain rfl : k = xs.length := by omega
        have HE := Lib.hid (sameT_all HL.out (fun j x y h1 h2 => HS.out j x y (List.getElem?_eq_some_iff.1 h1).1 h1 h2))
        go_wp2
        go_ret
        exact ⟨by rw [HE.out]; rfl, hbel⟩
  · have hl' : ((xs.length : Int) == (ys.length : Int)) = false := by rw [beq_eq_false_iff_ne]; omega
    have hl'' : ((xs.length : Int) != (ys.length : Int)) = true := by rw [bne_iff_ne]; omega
    have HE := Lib.hid (sameT_len hl)
    clear hl
    go_enter Try.func6, Try.ntmps6
    go_wp2
    go_ret
    exact ⟨by rw [HE.out]; rfl, Below.refl _ _⟩

end Go.Proofs.Ytoofnicpjgmneaa
