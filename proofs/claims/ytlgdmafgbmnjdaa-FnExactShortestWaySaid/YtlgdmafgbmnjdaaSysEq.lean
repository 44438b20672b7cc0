/- Systems of bigraphs compared: the law package's helpers, walked. -/
import Derived.Test.YtlgdmafgbmnjdaaProg
import Derived.Test.YtlgdmafgbmnjdaaSys
import Derived.Test.YtlgdmafgbmnjdaaLabTo
set_option linter.unusedVariables false
namespace Go.Proofs.Ytlgdmafgbmnjdaa
open Go.RowKit

theorem sameI_eq {xs ys : List Int} : sameI xs ys = true ↔ xs = ys := by simp [sameI]
theorem sameI_ne {xs ys : List Int} (h : sameI xs ys = false) : xs ≠ ys := by
  intro e
  rw [sameI_eq.2 e] at h
  cases h
theorem sameT_eq {α : Type} [DecidableEq α] {x y : α} (h : sameT x y = true) : x = y := by simpa [sameT] using h
theorem sameT_no {α : Type} [DecidableEq α] {x y : α} (h : sameT x y = false) : x ≠ y := by simpa [sameT] using h
theorem RI.form {w : World} {v : Value} {xs : List Int} (h : RI w v xs) : ∃ A c, v = .slice A xs.length c := by
  obtain ⟨A, c, e, _⟩ := h
  exact ⟨A, c, e⟩
theorem cost_small {α : Type} {c : α → Nat} {l : List α} {n : Nat} (h : costL c l ≤ n) : l.length ≤ n ∧ ∀ x ∈ l, c x ≤ n :=
  ⟨by unfold costL at h; omega, fun x hx => Nat.le_trans (cost_mem hx) h⟩
theorem eqIntS_ri (v u : Value) (xs ys : List Int) (w : World) (hv : RI w v xs) (hu : RI w u ys) (hn : xs.length ≤ 16777216) (hm : ys.length ≤ 16777216) :
    Calls Try.prog 15 #[v, u] w fun e w' => e = .returned (.bool (sameI xs ys)) ∧ Below w.heap.size w w' := by
  obtain ⟨A, c, rfl, _, hA⟩ := hv
  obtain ⟨B, d, rfl, _, hB⟩ := hu
  exact eqIntS_any A B c d xs ys w hn hm hA hB

set_option maxHeartbeats 1000000 in
theorem eqNode_any (v u : Value) (x y : BN) (w : World) (hv : RI w v x.2.2) (hu : RI w u y.2.2) (hx : costBN x ≤ 16777216) (hy : costBN y ≤ 16777216) :
    Calls Try.prog 106 #[.agg #[.int .i64 x.1, .int .i64 x.2.1, v], .agg #[.int .i64 y.1, .int .i64 y.2.1, u]] w fun e w' => e = .returned (.bool (sameT x y)) ∧ Below w.heap.size w w' := by
  obtain ⟨a, b, xs⟩ := x
  obtain ⟨a', b', ys⟩ := y
  have hb2 : ∀ o1 o2, Below w.heap.size w ((w.alloc o1).alloc o2) := fun o1 o2 => ((Below.refl _ _).alloc (Nat.le_refl _) o1).alloc (by simp) o2
  have H := Lib.hid (fun o1 o2 => eqIntS_ri v u xs ys ((w.alloc o1).alloc o2) (hv.below (hb2 _ _)) (hu.below (hb2 _ _)) hx hy)
  have HB := Lib.hid hb2
  clear hv hu hb2
  by_cases e1 : a = a'
  · have q1 : (a != a') = false := by rw [e1, bne_self_eq_false]
    by_cases e2 : b = b'
    · have q2 : (b != b') = false := by rw [e2, bne_self_eq_false]
      cases e3 : sameI xs ys
      · have HE := Lib.hid (sameT_ne (show (a, b, xs) ≠ (a', b', ys) by intro e; simp at e; exact sameI_ne e3 e.2.2))
        rw [e3] at H
        clear e1 e2 e3
        go_enter Try.func106, Try.ntmps106
        go_wp2_with fail
        refine (H.out _ _).mono ?_
        rintro e w1 ⟨rfl, hw⟩
        go_wp2_with fail
        go_ret
        exact ⟨by rw [HE.out]; rfl, (HB.out _ _).trans (hw.mono (HB.out _ _).size)⟩
      · have HE := Lib.hid (show sameT (a, b, xs) (a', b', ys) = true by rw [e1, e2, sameI_eq.1 e3]; exact sameT_refl _)
        rw [e3] at H
        clear e1 e2 e3
        go_enter Try.func106, Try.ntmps106
        go_wp2_with fail
        refine (H.out _ _).mono ?_
        rintro e w1 ⟨rfl, hw⟩
        go_wp2_with fail
        go_ret
        exact ⟨by rw [HE.out]; rfl, (HB.out _ _).trans (hw.mono (HB.out _ _).size)⟩
    · have q2 : (b != b') = true := by rw [bne_iff_ne]; exact e2
      have HE := Lib.hid (sameT_ne (show (a, b, xs) ≠ (a', b', ys) by intro e; simp at e; exact e2 e.2.1))
      clear e1 e2
      go_enter Try.func106, Try.ntmps106
      go_wp2_with fail
      go_ret
      exact ⟨by rw [HE.out]; rfl, HB.out _ _⟩
  · have q1 : (a != a') = true := by rw [bne_iff_ne]; exact e1
    have HE := Lib.hid (sameT_ne (show (a, b, xs) ≠ (a', b', ys) by intro e; simp at e; exact e1 e.1))
    clear e1
    go_enter Try.func106, Try.ntmps106
    go_wp2_with fail
    go_ret
    exact ⟨by rw [HE.out]; rfl, HB.out _ _⟩

set_option maxHeartbeats 1000000 in
theorem eqWire_any (x y : BW) (w : World) :
    Calls Try.prog 107 #[.agg #[.string x.1, .int .i64 x.2], .agg #[.string y.1, .int .i64 y.2]] w fun e w' => e = .returned (.bool (sameT x y)) ∧ Below w.heap.size w w' := by
  obtain ⟨a, b⟩ := x
  obtain ⟨a', b'⟩ := y
  by_cases e1 : a = a'
  · subst e1
    have q1 := str_eq a
    by_cases e2 : b = b'
    · have q2 : (b != b') = false := by rw [e2, bne_self_eq_false]
      have HE := Lib.hid (show sameT (a, b) (a, b') = true by rw [e2]; exact sameT_refl _)
      clear e2
      go_enter Try.func107, Try.ntmps107
      go_wp2_with fail
      go_ret
      exact ⟨by rw [HE.out]; rfl, ((Below.refl _ _).alloc (Nat.le_refl _) _).alloc (by simp) _⟩
    · have q2 : (b != b') = true := by rw [bne_iff_ne]; exact e2
      have HE := Lib.hid (sameT_ne (show (a, b) ≠ (a, b') by intro e; simp at e; exact e2 e))
      clear e2
      go_enter Try.func107, Try.ntmps107
      go_wp2_with fail
      go_ret
      exact ⟨by rw [HE.out]; rfl, ((Below.refl _ _).alloc (Nat.le_refl _) _).alloc (by simp) _⟩
  · have q1 := str_ne e1
    have HE := Lib.hid (sameT_ne (show (a, b) ≠ (a', b') by intro e; simp at e; exact e1 e.1))
    clear e1
    go_enter Try.func107, Try.ntmps107
    go_wp2_with fail
    go_ret
    exact ⟨by rw [HE.out]; rfl, ((Below.refl _ _).alloc (Nat.le_refl _) _).alloc (by simp) _⟩

set_option maxRecDepth 100000 in
set_option maxHeartbeats 2000000 in
theorem eqStringS_any (v u : Value) (xs ys : List ByteArray) (w : World) (hv : RSl RStr 1 w v xs) (hu : RSl RStr 1 w u ys) (hn : xs.length ≤ 16777216) (hm : ys.length ≤ 16777216) :
    Calls Try.prog 93 #[v, u] w fun e w' => e = .returned (.bool (sameT xs ys)) ∧ Below w.heap.size w w' := by
  have HV := Lib.hid (show ∀ W, Below w.heap.size w W → RSl RStr 1 W v xs from fun W hb => hv.below RStr_keep hb)
  have HU := Lib.hid (show ∀ W, Below w.heap.size w W → RSl RStr 1 W u ys from fun W hb => hu.below RStr_keep hb)
  obtain ⟨A, c, rfl, _⟩ := hv.form
  obtain ⟨B, d, rfl, _⟩ := hu.form
  clear hv hu
  by_cases hl : xs.length = ys.length
  · have hl' : ((xs.length : Int) == (ys.length : Int)) = true := by simp [hl]
    have hl'' : ((xs.length : Int) != (ys.length : Int)) = false := by simp [hl]
    have HL := Lib.hid hl
    clear hl
    go_enter Try.func93, Try.ntmps93
    go_wp2
    go_loopw [5] (fun i wr => ∃ k : Nat, k ≤ xs.length ∧ i = .int .i64 k ∧ (∀ (j : Nat) x y, j < k → xs[j]? = some x → ys[j]? = some y → sameT x y = true) ∧ Below w.heap.size w wr)
      (fun i _ => xs.length - (intOf i).toNat)
    case atStart => exact ⟨0, Nat.zero_le _, rfl, fun j _ _ hj => by omega, Below.refl _ _⟩
    case round =>
      obtain ⟨k, hk, rfl, hsame, hbel⟩ := hrel
      have HS := Lib.hid hsame
      clear hsame
      by_cases hlt : k < xs.length
      · have hlt2 : k < ys.length := by have := HL.out; omega
        obtain ⟨b, o, c', cs, ev, hcl, hcr, hc⟩ := (HV.out wr hbel).at_ (by omega) (List.getElem?_eq_getElem hlt)
        obtain ⟨b', o', d', ds, eu, hdl, hdr, hd⟩ := (HU.out wr hbel).at_ (by omega) (List.getElem?_eq_getElem hlt2)
        cases ev
        cases eu
        have HX := Lib.hid (List.getElem?_eq_getElem hlt)
        have HY := Lib.hid (List.getElem?_eq_getElem hlt2)
        generalize xs[k] = x at *
        generalize ys[k] = y at *
        obtain ⟨rfl, _⟩ := hcr
        obtain ⟨rfl, _⟩ := hdr
        have hk0 := hc 0 _ rfl
        have gk0 := hd 0 _ rfl
        rw [Nat.add_zero, Nat.mul_one] at hk0 gk0
        have b0 : (0 : Int) ≤ (k : Int) := by omega
        have b1 : (k : Int) < (xs.length : Int) := by omega
        have b2 : (k : Int) < (ys.length : Int) := by omega
        clear hc hd hcl hdl
        by_cases hx : x = y
        · have q := str_eq y
          have HN := Lib.hid (show ∀ (j : Nat) x' y', j < k + 1 → xs[j]? = some x' → ys[j]? = some y' → sameT x' y' = true from fun j x' y' hj h1 h2 => by
            rcases Nat.lt_succ_iff_lt_or_eq.1 hj with h | h
            · exact HS.out j x' y' h h1 h2
            · subst h
              rw [HX.out] at h1
              rw [HY.out] at h2
              injection h1 with h1
              injection h2 with h2
              rw [← h1, ← h2, hx]
              exact sameT_refl _)
          subst hx
          go_wp2_with fail
          go_quiet (fail)
          go_wp2_with fail
          go_roundw
          case rel => exact ⟨k + 1, by omega, by go_num, HN.out, below_drewN' hbel _⟩
          case measure => simp [intOf]; omega
        · have q := str_ne hx
          have HE := Lib.hid (sameT_at HX.out HY.out (sameT_ne hx))
          clear hx
          go_wp2_with fail
          go_quiet (fail)
          go_wp2_with fail
          go_ret
          exact ⟨by rw [HE.out]; rfl, below_drewN' hbel _⟩
      · obtain rfl : k = xs.length := by omega
        have HE := Lib.hid (sameT_all HL.out (fun j x y h1 h2 => HS.out j x y (List.getElem?_eq_some_iff.1 h1).1 h1 h2))
        go_wp2
        go_ret
        exact ⟨by rw [HE.out]; rfl, hbel⟩
  · have hl' : ((xs.length : Int) == (ys.length : Int)) = false := by rw [beq_eq_false_iff_ne]; omega
    have hl'' : ((xs.length : Int) != (ys.length : Int)) = true := by rw [bne_iff_ne]; omega
    have HE := Lib.hid (sameT_len hl)
    clear hl
    go_enter Try.func93, Try.ntmps93
    go_wp2
    go_ret
    exact ⟨by rw [HE.out]; rfl, Below.refl _ _⟩

set_option maxRecDepth 100000 in
set_option maxHeartbeats 2000000 in
theorem eqNodeS_any (v u : Value) (xs ys : List BN) (w : World) (hv : RSl RBN 3 w v xs) (hu : RSl RBN 3 w u ys) (hn : xs.length ≤ 16777216) (hm : ys.length ≤ 16777216) (hsx : ∀ x ∈ xs, costBN x ≤ 16777216) (hsy : ∀ y ∈ ys, costBN y ≤ 16777216) :
    Calls Try.prog 92 #[v, u] w fun e w' => e = .returned (.bool (sameT xs ys)) ∧ Below w.heap.size w w' := by
  have HV := Lib.hid (show ∀ W, Below w.heap.size w W → RSl RBN 3 W v xs from fun W hb => hv.below RBN_keep hb)
  have HU := Lib.hid (show ∀ W, Below w.heap.size w W → RSl RBN 3 W u ys from fun W hb => hu.below RBN_keep hb)
  obtain ⟨A, c, rfl, _⟩ := hv.form
  obtain ⟨B, d, rfl, _⟩ := hu.form
  clear hv hu
  by_cases hl : xs.length = ys.length
  · have hl' : ((xs.length : Int) == (ys.length : Int)) = true := by simp [hl]
    have hl'' : ((xs.length : Int) != (ys.length : Int)) = false := by simp [hl]
    have HL := Lib.hid hl
    clear hl
    go_enter Try.func92, Try.ntmps92
    go_wp2
    go_loopw [5] (fun i wr => ∃ k : Nat, k ≤ xs.length ∧ i = .int .i64 k ∧ (∀ (j : Nat) x y, j < k → xs[j]? = some x → ys[j]? = some y → sameT x y = true) ∧ Below w.heap.size w wr)
      (fun i _ => xs.length - (intOf i).toNat)
    case atStart => exact ⟨0, Nat.zero_le _, rfl, fun j _ _ hj => by omega, Below.refl _ _⟩
    case round =>
      obtain ⟨k, hk, rfl, hsame, hbel⟩ := hrel
      have HS := Lib.hid hsame
      clear hsame
      by_cases hlt : k < xs.length
      · have hlt2 : k < ys.length := by have := HL.out; omega
        obtain ⟨b, o, c', cs, ev, hcl, hcr, hc⟩ := (HV.out wr hbel).at_ (by omega) (List.getElem?_eq_getElem hlt)
        obtain ⟨b', o', d', ds, eu, hdl, hdr, hd⟩ := (HU.out wr hbel).at_ (by omega) (List.getElem?_eq_getElem hlt2)
        cases ev
        cases eu
        have hs1 := hsx _ (List.mem_of_getElem? (List.getElem?_eq_getElem hlt))
        have hs2 := hsy _ (List.mem_of_getElem? (List.getElem?_eq_getElem hlt2))
        have HX := Lib.hid (List.getElem?_eq_getElem hlt)
        have HY := Lib.hid (List.getElem?_eq_getElem hlt2)
        generalize xs[k] = x at *
        generalize ys[k] = y at *
        obtain ⟨xv, rfl, xh⟩ := hcr
        obtain ⟨yv, rfl, yh⟩ := hdr
        have hk0 := hc 0 _ rfl
        have hk1 := hc 1 _ rfl
        have hk2 := hc 2 _ rfl
        have gk0 := hd 0 _ rfl
        have gk1 := hd 1 _ rfl
        have gk2 := hd 2 _ rfl
        rw [← Nat.add_assoc] at hk1
        rw [← Nat.add_assoc] at hk2
        rw [Nat.add_zero] at hk0
        rw [← Nat.add_assoc] at gk1
        rw [← Nat.add_assoc] at gk2
        rw [Nat.add_zero] at gk0
        have H := Lib.hid (eqNode_any xv yv x y wr.drew xh yh hs1 hs2)
        have b0 : (0 : Int) ≤ (k : Int) := by omega
        have b1 : (k : Int) < (xs.length : Int) := by omega
        have b2 : (k : Int) < (ys.length : Int) := by omega
        clear hc hd hcl hdl
        by_cases hx : sameT x y = true
        · go_wp2
          go_still_tail 8, (by kernel_rfl)
          change wpList _ _ _ _ _ wr.drew
          go_wp2_with ((with_reducible refine H.out.mono ?_); rintro e w1 ⟨rfl, hb1⟩)
          go_roundw
          case rel =>
            refine ⟨k + 1, by omega, by go_num, fun j x' y' hj h1 h2 => ?_, hbel.drew.trans (hb1.mono hbel.size)⟩
            rcases Nat.lt_succ_iff_lt_or_eq.1 hj with h | h
            · exact HS.out j x' y' h h1 h2
            · subst h
              have e1 := HX.out
              have e2 := HY.out
              rw [h1] at e1
              rw [h2] at e2
              injection e1 with e1
              injection e2 with e2
              subst e1
              subst e2
              exact hx
          case measure => simp [intOf]; omega
        · have hx' : sameT x y = false := by simpa using hx
          clear hx
          have HE := Lib.hid (sameT_at HX.out HY.out hx')
          go_wp2
          go_still_tail 8, (by kernel_rfl)
          change wpList _ _ _ _ _ wr.drew
          go_wp2_with ((with_reducible refine H.out.mono ?_); rintro e w1 ⟨rfl, hb1⟩)
          go_ret
          exact ⟨by rw [HE.out]; rfl, hbel.drew.trans (hb1.mono hbel.size)⟩
      · obtain rfl : k = xs.length := by omega
        have HE := Lib.hid (sameT_all HL.out (fun j x y h1 h2 => HS.out j x y (List.getElem?_eq_some_iff.1 h1).1 h1 h2))
        go_wp2
        go_ret
        exact ⟨by rw [HE.out]; rfl, hbel⟩
  · have hl' : ((xs.length : Int) == (ys.length : Int)) = false := by rw [beq_eq_false_iff_ne]; omega
    have hl'' : ((xs.length : Int) != (ys.length : Int)) = true := by rw [bne_iff_ne]; omega
    have HE := Lib.hid (sameT_len hl)
    clear hl
    go_enter Try.func92, Try.ntmps92
    go_wp2
    go_ret
    exact ⟨by rw [HE.out]; rfl, Below.refl _ _⟩

set_option maxRecDepth 100000 in
set_option maxHeartbeats 2000000 in
theorem eqWireS_any (v u : Value) (xs ys : List BW) (w : World) (hv : RSl RBW 2 w v xs) (hu : RSl RBW 2 w u ys) (hn : xs.length ≤ 16777216) (hm : ys.length ≤ 16777216) :
    Calls Try.prog 94 #[v, u] w fun e w' => e = .returned (.bool (sameT xs ys)) ∧ Below w.heap.size w w' := by
  have HV := Lib.hid (show ∀ W, Below w.heap.size w W → RSl RBW 2 W v xs from fun W hb => hv.below RBW_keep hb)
  have HU := Lib.hid (show ∀ W, Below w.heap.size w W → RSl RBW 2 W u ys from fun W hb => hu.below RBW_keep hb)
  obtain ⟨A, c, rfl, _⟩ := hv.form
  obtain ⟨B, d, rfl, _⟩ := hu.form
  clear hv hu
  by_cases hl : xs.length = ys.length
  · have hl' : ((xs.length : Int) == (ys.length : Int)) = true := by simp [hl]
    have hl'' : ((xs.length : Int) != (ys.length : Int)) = false := by simp [hl]
    have HL := Lib.hid hl
    clear hl
    go_enter Try.func94, Try.ntmps94
    go_wp2
    go_loopw [5] (fun i wr => ∃ k : Nat, k ≤ xs.length ∧ i = .int .i64 k ∧ (∀ (j : Nat) x y, j < k → xs[j]? = some x → ys[j]? = some y → sameT x y = true) ∧ Below w.heap.size w wr)
      (fun i _ => xs.length - (intOf i).toNat)
    case atStart => exact ⟨0, Nat.zero_le _, rfl, fun j _ _ hj => by omega, Below.refl _ _⟩
    case round =>
      obtain ⟨k, hk, rfl, hsame, hbel⟩ := hrel
      have HS := Lib.hid hsame
      clear hsame
      by_cases hlt : k < xs.length
      · have hlt2 : k < ys.length := by have := HL.out; omega
        obtain ⟨b, o, c', cs, ev, hcl, hcr, hc⟩ := (HV.out wr hbel).at_ (by omega) (List.getElem?_eq_getElem hlt)
        obtain ⟨b', o', d', ds, eu, hdl, hdr, hd⟩ := (HU.out wr hbel).at_ (by omega) (List.getElem?_eq_getElem hlt2)
        cases ev
        cases eu
        have HX := Lib.hid (List.getElem?_eq_getElem hlt)
        have HY := Lib.hid (List.getElem?_eq_getElem hlt2)
        generalize xs[k] = x at *
        generalize ys[k] = y at *
        obtain ⟨rfl, _⟩ := hcr
        obtain ⟨rfl, _⟩ := hdr
        have hk0 := hc 0 _ rfl
        have hk1 := hc 1 _ rfl
        have gk0 := hd 0 _ rfl
        have gk1 := hd 1 _ rfl
        rw [← Nat.add_assoc] at hk1
        rw [Nat.add_zero] at hk0
        rw [← Nat.add_assoc] at gk1
        rw [Nat.add_zero] at gk0
        have H := Lib.hid (eqWire_any x y wr.drew)
        have b0 : (0 : Int) ≤ (k : Int) := by omega
        have b1 : (k : Int) < (xs.length : Int) := by omega
        have b2 : (k : Int) < (ys.length : Int) := by omega
        clear hc hd hcl hdl
        by_cases hx : sameT x y = true
        · go_wp2
          go_still_tail 8, (by kernel_rfl)
          change wpList _ _ _ _ _ wr.drew
          go_wp2_with ((with_reducible refine H.out.mono ?_); rintro e w1 ⟨rfl, hb1⟩)
          go_roundw
          case rel =>
            refine ⟨k + 1, by omega, by go_num, fun j x' y' hj h1 h2 => ?_, hbel.drew.trans (hb1.mono hbel.size)⟩
            rcases Nat.lt_succ_iff_lt_or_eq.1 hj with h | h
            · exact HS.out j x' y' h h1 h2
            · subst h
              have e1 := HX.out
              have e2 := HY.out
              rw [h1] at e1
              rw [h2] at e2
              injection e1 with e1
              injection e2 with e2
              subst e1
              subst e2
              exact hx
          case measure => simp [intOf]; omega
        · have hx' : sameT x y = false := by simpa using hx
          clear hx
          have HE := Lib.hid (sameT_at HX.out HY.out hx')
          go_wp2
          go_still_tail 8, (by kernel_rfl)
          change wpList _ _ _ _ _ wr.drew
          go_wp2_with ((with_reducible refine H.out.mono ?_); rintro e w1 ⟨rfl, hb1⟩)
          go_ret
          exact ⟨by rw [HE.out]; rfl, hbel.drew.trans (hb1.mono hbel.size)⟩
      · obtain rfl : k = xs.length := by omega
        have HE := Lib.hid (sameT_all HL.out (fun j x y h1 h2 => HS.out j x y (List.getElem?_eq_some_iff.1 h1).1 h1 h2))
        go_wp2
        go_ret
        exact ⟨by rw [HE.out]; rfl, hbel⟩
  · have hl' : ((xs.length : Int) == (ys.length : Int)) = false := by rw [beq_eq_false_iff_ne]; omega
    have hl'' : ((xs.length : Int) != (ys.length : Int)) = true := by rw [bne_iff_ne]; omega
    have HE := Lib.hid (sameT_len hl)
    clear hl
    go_enter Try.func94, Try.ntmps94
    go_wp2
    go_ret
    exact ⟨by rw [HE.out]; rfl, Below.refl _ _⟩

set_option maxRecDepth 100000 in
set_option maxHeartbeats 4000000 in
theorem eqBigraph_any (xn xs xo xi yn ys yo yi : Value) (x y : Big) (w : World) (x1 : RSl RBN 3 w xn x.2.1) (x2 : RI w xs x.2.2.1) (x3 : RSl RStr 1 w xo x.2.2.2.2.1) (x4 : RSl RBW 2 w xi x.2.2.2.2.2)
    (y1 : RSl RBN 3 w yn y.2.1) (y2 : RI w ys y.2.2.1) (y3 : RSl RStr 1 w yo y.2.2.2.2.1) (y4 : RSl RBW 2 w yi y.2.2.2.2.2) (hx : costBig x ≤ 16777216) (hy : costBig y ≤ 16777216) :
    Calls Try.prog 74 #[.agg #[.int .i64 x.1, xn, xs, .int .i64 x.2.2.2.1, xo, xi], .agg #[.int .i64 y.1, yn, ys, .int .i64 y.2.2.2.1, yo, yi]] w fun e w' => e = .returned (.bool (sameT x y)) ∧ Below w.heap.size w w' := by
  have hb2 : ∀ o1 o2, Below w.heap.size w ((w.alloc o1).alloc o2) := fun o1 o2 => ((Below.refl _ _).alloc (Nat.le_refl _) o1).alloc (by simp) o2
  have HX1 := Lib.hid (show ∀ W, Below w.heap.size w W → RSl RBN 3 W xn x.2.1 from fun W hb => x1.below RBN_keep hb)
  have HX2 := Lib.hid (show ∀ W, Below w.heap.size w W → RI W xs x.2.2.1 from fun W hb => x2.below hb)
  have HX4 := Lib.hid (show ∀ W, Below w.heap.size w W → RSl RStr 1 W xo x.2.2.2.2.1 from fun W hb => x3.below RStr_keep hb)
  have HX5 := Lib.hid (show ∀ W, Below w.heap.size w W → RSl RBW 2 W xi x.2.2.2.2.2 from fun W hb => x4.below RBW_keep hb)
  have HY1 := Lib.hid (show ∀ W, Below w.heap.size w W → RSl RBN 3 W yn y.2.1 from fun W hb => y1.below RBN_keep hb)
  have HY2 := Lib.hid (show ∀ W, Below w.heap.size w W → RI W ys y.2.2.1 from fun W hb => y2.below hb)
  have HY4 := Lib.hid (show ∀ W, Below w.heap.size w W → RSl RStr 1 W yo y.2.2.2.2.1 from fun W hb => y3.below RStr_keep hb)
  have HY5 := Lib.hid (show ∀ W, Below w.heap.size w W → RSl RBW 2 W yi y.2.2.2.2.2 from fun W hb => y4.below RBW_keep hb)
  have HB := Lib.hid hb2
  have sx1 : costL costBN x.2.1 ≤ 16777216 := by unfold costBig at hx; omega
  have sx2 : x.2.2.1.length ≤ 16777216 := by unfold costBig at hx; omega
  have sx4 : costL costStr x.2.2.2.2.1 ≤ 16777216 := by unfold costBig at hx; omega
  have sx5 : costL costBW x.2.2.2.2.2 ≤ 16777216 := by unfold costBig at hx; omega
  have sy1 : costL costBN y.2.1 ≤ 16777216 := by unfold costBig at hy; omega
  have sy2 : y.2.2.1.length ≤ 16777216 := by unfold costBig at hy; omega
  have sy4 : costL costStr y.2.2.2.2.1 ≤ 16777216 := by unfold costBig at hy; omega
  have sy5 : costL costBW y.2.2.2.2.2 ≤ 16777216 := by unfold costBig at hy; omega
  have SM := Lib.hid (And.intro (And.intro (cost_small sx1) (And.intro (cost_small sx4) (cost_small sx5))) (And.intro (cost_small sy1) (And.intro (cost_small sy4) (cost_small sy5))))
  clear x1 x2 x3 x4 y1 y2 y3 y4 hb2 sx1 sx4 sx5 sy1 sy4 sy5 hx hy
  have HALL := Lib.hid (show x.1 = y.1 → x.2.1 = y.2.1 → x.2.2.1 = y.2.2.1 → x.2.2.2.1 = y.2.2.2.1 → x.2.2.2.2.1 = y.2.2.2.2.1 → x.2.2.2.2.2 = y.2.2.2.2.2 → sameT x y = true from fun a b c d e f => by
    have : x = y := Prod.ext a (Prod.ext b (Prod.ext c (Prod.ext d (Prod.ext e f))))
    rw [this]
    exact sameT_refl _)
  by_cases g0 : x.1 = y.1
  · have E0 : (x.1 != y.1) = false := by rw [g0, bne_self_eq_false]
    cases E1 : sameT x.2.1 y.2.1
    · have HE := Lib.hid (sameT_ne (show x ≠ y from fun e => sameT_no E1 (by rw [e])))
      clear g0
      go_enter Try.func74, Try.ntmps74
      go_wp2_with fail
      refine (eqNodeS_any xn yn _ _ _ (HX1.out _ (HB.out _ _)) (HY1.out _ (HB.out _ _)) SM.out.1.1.1 SM.out.2.1.1 SM.out.1.1.2 SM.out.2.1.2).mono ?_
      rintro e w1 ⟨rfl, hw1⟩
      have hz1 := ((HB.out _ _)).trans (hw1.mono ((HB.out _ _)).size)
      clear hw1
      rw [E1]
      go_wp2_with fail
      go_ret
      exact ⟨by rw [HE.out]; rfl, hz1⟩
    · skip
      cases E2 : sameI x.2.2.1 y.2.2.1
      · have HE := Lib.hid (sameT_ne (show x ≠ y from fun e => sameI_ne E2 (by rw [e])))
        clear g0
        go_enter Try.func74, Try.ntmps74
        go_wp2_with fail
        refine (eqNodeS_any xn yn _ _ _ (HX1.out _ (HB.out _ _)) (HY1.out _ (HB.out _ _)) SM.out.1.1.1 SM.out.2.1.1 SM.out.1.1.2 SM.out.2.1.2).mono ?_
        rintro e w1 ⟨rfl, hw1⟩
        have hz1 := ((HB.out _ _)).trans (hw1.mono ((HB.out _ _)).size)
        obtain ⟨bx, by_, _⟩ := two_boxes hw1
        have q2 : w1.cell? ⟨w.heap.size, 2, none⟩ = some (xs) := cell_of_row _ _ _ _ _ _ bx
        have p2 : w1.cell? ⟨w.heap.size + 1, 2, none⟩ = some (ys) := cell_of_row _ _ _ _ _ _ by_
        clear bx by_
        clear hw1
        rw [E1]
        go_wp2_with fail
        refine (eqIntS_ri xs ys _ _ _ (HX2.out _ hz1) (HY2.out _ hz1) sx2 sy2).mono ?_
        rintro e w2 ⟨rfl, hw2⟩
        have hz2 := (hz1).trans (hw2.mono (hz1).size)
        clear hw2
        rw [E2]
        go_wp2_with fail
        go_ret
        exact ⟨by rw [HE.out]; rfl, hz2⟩
      · skip
        by_cases g3 : x.2.2.2.1 = y.2.2.2.1
        · have E3 : (x.2.2.2.1 != y.2.2.2.1) = false := by rw [g3, bne_self_eq_false]
          cases E4 : sameT x.2.2.2.2.1 y.2.2.2.2.1
          · have HE := Lib.hid (sameT_ne (show x ≠ y from fun e => sameT_no E4 (by rw [e])))
            clear g0 g3
            go_enter Try.func74, Try.ntmps74
            go_wp2_with fail
            refine (eqNodeS_any xn yn _ _ _ (HX1.out _ (HB.out _ _)) (HY1.out _ (HB.out _ _)) SM.out.1.1.1 SM.out.2.1.1 SM.out.1.1.2 SM.out.2.1.2).mono ?_
            rintro e w1 ⟨rfl, hw1⟩
            have hz1 := ((HB.out _ _)).trans (hw1.mono ((HB.out _ _)).size)
            obtain ⟨bx, by_, _⟩ := two_boxes hw1
            have q2 : w1.cell? ⟨w.heap.size, 2, none⟩ = some (xs) := cell_of_row _ _ _ _ _ _ bx
            have p2 : w1.cell? ⟨w.heap.size + 1, 2, none⟩ = some (ys) := cell_of_row _ _ _ _ _ _ by_
            have q3 : w1.cell? ⟨w.heap.size, 3, none⟩ = some (.int .i64 x.2.2.2.1) := cell_of_row _ _ _ _ _ _ bx
            have p3 : w1.cell? ⟨w.heap.size + 1, 3, none⟩ = some (.int .i64 y.2.2.2.1) := cell_of_row _ _ _ _ _ _ by_
            have q4 : w1.cell? ⟨w.heap.size, 4, none⟩ = some (xo) := cell_of_row _ _ _ _ _ _ bx
            have p4 : w1.cell? ⟨w.heap.size + 1, 4, none⟩ = some (yo) := cell_of_row _ _ _ _ _ _ by_
            clear bx by_
            clear hw1
            rw [E1]
            go_wp2_with fail
            refine (eqIntS_ri xs ys _ _ _ (HX2.out _ hz1) (HY2.out _ hz1) sx2 sy2).mono ?_
            rintro e w2 ⟨rfl, hw2⟩
            have hz2 := (hz1).trans (hw2.mono (hz1).size)
            have q3 := cell_below hw2 q3 (lt_of_cell q3)
            have p3 := cell_below hw2 p3 (lt_of_cell p3)
            have q4 := cell_below hw2 q4 (lt_of_cell q4)
            have p4 := cell_below hw2 p4 (lt_of_cell p4)
            clear hw2
            rw [E2]
            go_wp2_with fail
            refine (eqStringS_any xo yo _ _ _ (HX4.out _ hz2) (HY4.out _ hz2) SM.out.1.2.1.1 SM.out.2.2.1.1).mono ?_
            rintro e w3 ⟨rfl, hw3⟩
            have hz3 := (hz2).trans (hw3.mono (hz2).size)
            clear hw3
            rw [E4]
            go_wp2_with fail
            go_ret
            exact ⟨by rw [HE.out]; rfl, hz3⟩
          · skip
            cases E5 : sameT x.2.2.2.2.2 y.2.2.2.2.2
            · have HE := Lib.hid (sameT_ne (show x ≠ y from fun e => sameT_no E5 (by rw [e])))
              clear g0 g3
              go_enter Try.func74, Try.ntmps74
              go_wp2_with fail
              refine (eqNodeS_any xn yn _ _ _ (HX1.out _ (HB.out _ _)) (HY1.out _ (HB.out _ _)) SM.out.1.1.1 SM.out.2.1.1 SM.out.1.1.2 SM.out.2.1.2).mono ?_
              rintro e w1 ⟨rfl, hw1⟩
              have hz1 := ((HB.out _ _)).trans (hw1.mono ((HB.out _ _)).size)
              obtain ⟨bx, by_, _⟩ := two_boxes hw1
              have q2 : w1.cell? ⟨w.heap.size, 2, none⟩ = some (xs) := cell_of_row _ _ _ _ _ _ bx
              have p2 : w1.cell? ⟨w.heap.size + 1, 2, none⟩ = some (ys) := cell_of_row _ _ _ _ _ _ by_
              have q3 : w1.cell? ⟨w.heap.size, 3, none⟩ = some (.int .i64 x.2.2.2.1) := cell_of_row _ _ _ _ _ _ bx
              have p3 : w1.cell? ⟨w.heap.size + 1, 3, none⟩ = some (.int .i64 y.2.2.2.1) := cell_of_row _ _ _ _ _ _ by_
              have q4 : w1.cell? ⟨w.heap.size, 4, none⟩ = some (xo) := cell_of_row _ _ _ _ _ _ bx
              have p4 : w1.cell? ⟨w.heap.size + 1, 4, none⟩ = some (yo) := cell_of_row _ _ _ _ _ _ by_
              have q5 : w1.cell? ⟨w.heap.size, 5, none⟩ = some (xi) := cell_of_row _ _ _ _ _ _ bx
              have p5 : w1.cell? ⟨w.heap.size + 1, 5, none⟩ = some (yi) := cell_of_row _ _ _ _ _ _ by_
              clear bx by_
              clear hw1
              rw [E1]
              go_wp2_with fail
              refine (eqIntS_ri xs ys _ _ _ (HX2.out _ hz1) (HY2.out _ hz1) sx2 sy2).mono ?_
              rintro e w2 ⟨rfl, hw2⟩
              have hz2 := (hz1).trans (hw2.mono (hz1).size)
              have q3 := cell_below hw2 q3 (lt_of_cell q3)
              have p3 := cell_below hw2 p3 (lt_of_cell p3)
              have q4 := cell_below hw2 q4 (lt_of_cell q4)
              have p4 := cell_below hw2 p4 (lt_of_cell p4)
              have q5 := cell_below hw2 q5 (lt_of_cell q5)
              have p5 := cell_below hw2 p5 (lt_of_cell p5)
              clear hw2
              rw [E2]
              go_wp2_with fail
              refine (eqStringS_any xo yo _ _ _ (HX4.out _ hz2) (HY4.out _ hz2) SM.out.1.2.1.1 SM.out.2.2.1.1).mono ?_
              rintro e w3 ⟨rfl, hw3⟩
              have hz3 := (hz2).trans (hw3.mono (hz2).size)
              have q5 := cell_below hw3 q5 (lt_of_cell q5)
              have p5 := cell_below hw3 p5 (lt_of_cell p5)
              clear hw3
              rw [E4]
              go_wp2_with fail
              refine (eqWireS_any xi yi _ _ _ (HX5.out _ hz3) (HY5.out _ hz3) SM.out.1.2.2.1 SM.out.2.2.2.1).mono ?_
              rintro e w4 ⟨rfl, hw4⟩
              have hz4 := (hz3).trans (hw4.mono (hz3).size)
              clear hw4
              rw [E5]
              go_wp2_with fail
              go_ret
              exact ⟨by rw [HE.out]; rfl, hz4⟩
            · skip
              have HE := Lib.hid (HALL.out g0 (sameT_eq E1) (sameI_eq.1 E2) g3 (sameT_eq E4) (sameT_eq E5))
              clear g0 g3
              go_enter Try.func74, Try.ntmps74
              go_wp2_with fail
              refine (eqNodeS_any xn yn _ _ _ (HX1.out _ (HB.out _ _)) (HY1.out _ (HB.out _ _)) SM.out.1.1.1 SM.out.2.1.1 SM.out.1.1.2 SM.out.2.1.2).mono ?_
              rintro e w1 ⟨rfl, hw1⟩
              have hz1 := ((HB.out _ _)).trans (hw1.mono ((HB.out _ _)).size)
              obtain ⟨bx, by_, _⟩ := two_boxes hw1
              have q2 : w1.cell? ⟨w.heap.size, 2, none⟩ = some (xs) := cell_of_row _ _ _ _ _ _ bx
              have p2 : w1.cell? ⟨w.heap.size + 1, 2, none⟩ = some (ys) := cell_of_row _ _ _ _ _ _ by_
              have q3 : w1.cell? ⟨w.heap.size, 3, none⟩ = some (.int .i64 x.2.2.2.1) := cell_of_row _ _ _ _ _ _ bx
              have p3 : w1.cell? ⟨w.heap.size + 1, 3, none⟩ = some (.int .i64 y.2.2.2.1) := cell_of_row _ _ _ _ _ _ by_
              have q4 : w1.cell? ⟨w.heap.size, 4, none⟩ = some (xo) := cell_of_row _ _ _ _ _ _ bx
              have p4 : w1.cell? ⟨w.heap.size + 1, 4, none⟩ = some (yo) := cell_of_row _ _ _ _ _ _ by_
              have q5 : w1.cell? ⟨w.heap.size, 5, none⟩ = some (xi) := cell_of_row _ _ _ _ _ _ bx
              have p5 : w1.cell? ⟨w.heap.size + 1, 5, none⟩ = some (yi) := cell_of_row _ _ _ _ _ _ by_
              clear bx by_
              clear hw1
              rw [E1]
              go_wp2_with fail
              refine (eqIntS_ri xs ys _ _ _ (HX2.out _ hz1) (HY2.out _ hz1) sx2 sy2).mono ?_
              rintro e w2 ⟨rfl, hw2⟩
              have hz2 := (hz1).trans (hw2.mono (hz1).size)
              have q3 := cell_below hw2 q3 (lt_of_cell q3)
              have p3 := cell_below hw2 p3 (lt_of_cell p3)
              have q4 := cell_below hw2 q4 (lt_of_cell q4)
              have p4 := cell_below hw2 p4 (lt_of_cell p4)
              have q5 := cell_below hw2 q5 (lt_of_cell q5)
              have p5 := cell_below hw2 p5 (lt_of_cell p5)
              clear hw2
              rw [E2]
              go_wp2_with fail
              refine (eqStringS_any xo yo _ _ _ (HX4.out _ hz2) (HY4.out _ hz2) SM.out.1.2.1.1 SM.out.2.2.1.1).mono ?_
              rintro e w3 ⟨rfl, hw3⟩
              have hz3 := (hz2).trans (hw3.mono (hz2).size)
              have q5 := cell_below hw3 q5 (lt_of_cell q5)
              have p5 := cell_below hw3 p5 (lt_of_cell p5)
              clear hw3
              rw [E4]
              go_wp2_with fail
              refine (eqWireS_any xi yi _ _ _ (HX5.out _ hz3) (HY5.out _ hz3) SM.out.1.2.2.1 SM.out.2.2.2.1).mono ?_
              rintro e w4 ⟨rfl, hw4⟩
              have hz4 := (hz3).trans (hw4.mono (hz3).size)
              clear hw4
              rw [E5]
              go_wp2_with fail
              go_ret
              exact ⟨by rw [HE.out]; rfl, hz4⟩
        · have E3 : (x.2.2.2.1 != y.2.2.2.1) = true := by rw [bne_iff_ne]; exact g3
          have HE := Lib.hid (sameT_ne (show x ≠ y from fun e => g3 (by rw [e])))
          clear g0 g3
          go_enter Try.func74, Try.ntmps74
          go_wp2_with fail
          refine (eqNodeS_any xn yn _ _ _ (HX1.out _ (HB.out _ _)) (HY1.out _ (HB.out _ _)) SM.out.1.1.1 SM.out.2.1.1 SM.out.1.1.2 SM.out.2.1.2).mono ?_
          rintro e w1 ⟨rfl, hw1⟩
          have hz1 := ((HB.out _ _)).trans (hw1.mono ((HB.out _ _)).size)
          obtain ⟨bx, by_, _⟩ := two_boxes hw1
          have q2 : w1.cell? ⟨w.heap.size, 2, none⟩ = some (xs) := cell_of_row _ _ _ _ _ _ bx
          have p2 : w1.cell? ⟨w.heap.size + 1, 2, none⟩ = some (ys) := cell_of_row _ _ _ _ _ _ by_
          have q3 : w1.cell? ⟨w.heap.size, 3, none⟩ = some (.int .i64 x.2.2.2.1) := cell_of_row _ _ _ _ _ _ bx
          have p3 : w1.cell? ⟨w.heap.size + 1, 3, none⟩ = some (.int .i64 y.2.2.2.1) := cell_of_row _ _ _ _ _ _ by_
          clear bx by_
          clear hw1
          rw [E1]
          go_wp2_with fail
          refine (eqIntS_ri xs ys _ _ _ (HX2.out _ hz1) (HY2.out _ hz1) sx2 sy2).mono ?_
          rintro e w2 ⟨rfl, hw2⟩
          have hz2 := (hz1).trans (hw2.mono (hz1).size)
          have q3 := cell_below hw2 q3 (lt_of_cell q3)
          have p3 := cell_below hw2 p3 (lt_of_cell p3)
          clear hw2
          rw [E2]
          go_wp2_with fail
          go_ret
          exact ⟨by rw [HE.out]; rfl, hz2⟩
  · have E0 : (x.1 != y.1) = true := by rw [bne_iff_ne]; exact g0
    have HE := Lib.hid (sameT_ne (show x ≠ y from fun e => g0 (by rw [e])))
    clear g0
    go_enter Try.func74, Try.ntmps74
    go_wp2_with fail
    go_ret
    exact ⟨by rw [HE.out]; rfl, HB.out _ _⟩

set_option maxRecDepth 100000 in
set_option maxHeartbeats 2000000 in
theorem eqBigraphS_any (v u : Value) (xs ys : List Big) (w : World) (hv : RSl RBig 6 w v xs) (hu : RSl RBig 6 w u ys) (hn : xs.length ≤ 16777216) (hm : ys.length ≤ 16777216) (hsx : ∀ x ∈ xs, costBig x ≤ 16777216) (hsy : ∀ y ∈ ys, costBig y ≤ 16777216) :
    Calls Try.prog 46 #[v, u] w fun e w' => e = .returned (.bool (sameT xs ys)) ∧ Below w.heap.size w w' := by
  have HV := Lib.hid (show ∀ W, Below w.heap.size w W → RSl RBig 6 W v xs from fun W hb => hv.below RBig_keep hb)
  have HU := Lib.hid (show ∀ W, Below w.heap.size w W → RSl RBig 6 W u ys from fun W hb => hu.below RBig_keep hb)
  obtain ⟨A, c, rfl, _⟩ := hv.form
  obtain ⟨B, d, rfl, _⟩ := hu.form
  clear hv hu
  by_cases hl : xs.length = ys.length
  · have hl' : ((xs.length : Int) == (ys.length : Int)) = true := by simp [hl]
    have hl'' : ((xs.length : Int) != (ys.length : Int)) = false := by simp [hl]
    have HL := Lib.hid hl
    clear hl
    go_enter Try.func46, Try.ntmps46
    go_wp2
    go_loopw [5] (fun i wr => ∃ k : Nat, k ≤ xs.length ∧ i = .int .i64 k ∧ (∀ (j : Nat) x y, j < k → xs[j]? = some x → ys[j]? = some y → sameT x y = true) ∧ Below w.heap.size w wr)
      (fun i _ => xs.length - (intOf i).toNat)
    case atStart => exact ⟨0, Nat.zero_le _, rfl, fun j _ _ hj => by omega, Below.refl _ _⟩
    case round =>
      obtain ⟨k, hk, rfl, hsame, hbel⟩ := hrel
      have HS := Lib.hid hsame
      clear hsame
      by_cases hlt : k < xs.length
      · have hlt2 : k < ys.length := by have := HL.out; omega
        obtain ⟨b, o, c', cs, ev, hcl, hcr, hc⟩ := (HV.out wr hbel).at_ (by omega) (List.getElem?_eq_getElem hlt)
        obtain ⟨b', o', d', ds, eu, hdl, hdr, hd⟩ := (HU.out wr hbel).at_ (by omega) (List.getElem?_eq_getElem hlt2)
        cases ev
        cases eu
        have hs1 := hsx _ (List.mem_of_getElem? (List.getElem?_eq_getElem hlt))
        have hs2 := hsy _ (List.mem_of_getElem? (List.getElem?_eq_getElem hlt2))
        have HX := Lib.hid (List.getElem?_eq_getElem hlt)
        have HY := Lib.hid (List.getElem?_eq_getElem hlt2)
        generalize xs[k] = x at *
        generalize ys[k] = y at *
        obtain ⟨xn, xs0, xo, xi, rfl, x1, x2, x3, x4⟩ := hcr
        obtain ⟨yn, ys0, yo, yi, rfl, y1, y2, y3, y4⟩ := hdr
        have hk0 := hc 0 _ rfl
        have hk1 := hc 1 _ rfl
        have hk2 := hc 2 _ rfl
        have hk3 := hc 3 _ rfl
        have hk4 := hc 4 _ rfl
        have hk5 := hc 5 _ rfl
        have gk0 := hd 0 _ rfl
        have gk1 := hd 1 _ rfl
        have gk2 := hd 2 _ rfl
        have gk3 := hd 3 _ rfl
        have gk4 := hd 4 _ rfl
        have gk5 := hd 5 _ rfl
        rw [← Nat.add_assoc] at hk1
        rw [← Nat.add_assoc] at hk2
        rw [← Nat.add_assoc] at hk3
        rw [← Nat.add_assoc] at hk4
        rw [← Nat.add_assoc] at hk5
        rw [Nat.add_zero] at hk0
        rw [← Nat.add_assoc] at gk1
        rw [← Nat.add_assoc] at gk2
        rw [← Nat.add_assoc] at gk3
        rw [← Nat.add_assoc] at gk4
        rw [← Nat.add_assoc] at gk5
        rw [Nat.add_zero] at gk0
        have H := Lib.hid (eqBigraph_any xn xs0 xo xi yn ys0 yo yi x y wr.drew x1 x2 x3 x4 y1 y2 y3 y4 hs1 hs2)
        have b0 : (0 : Int) ≤ (k : Int) := by omega
        have b1 : (k : Int) < (xs.length : Int) := by omega
        have b2 : (k : Int) < (ys.length : Int) := by omega
        clear hc hd hcl hdl
        by_cases hx : sameT x y = true
        · go_wp2
          go_still_tail 8, (by kernel_rfl)
          change wpList _ _ _ _ _ wr.drew
          go_wp2_with ((with_reducible refine H.out.mono ?_); rintro e w1 ⟨rfl, hb1⟩)
          go_roundw
          case rel =>
            refine ⟨k + 1, by omega, by go_num, fun j x' y' hj h1 h2 => ?_, hbel.drew.trans (hb1.mono hbel.size)⟩
            rcases Nat.lt_succ_iff_lt_or_eq.1 hj with h | h
            · exact HS.out j x' y' h h1 h2
            · subst h
              have e1 := HX.out
              have e2 := HY.out
              rw [h1] at e1
              rw [h2] at e2
              injection e1 with e1
              injection e2 with e2
              subst e1
              subst e2
              exact hx
          case measure => simp [intOf]; omega
        · have hx' : sameT x y = false := by simpa using hx
          clear hx
          have HE := Lib.hid (sameT_at HX.out HY.out hx')
          go_wp2
          go_still_tail 8, (by kernel_rfl)
          change wpList _ _ _ _ _ wr.drew
          go_wp2_with ((with_reducible refine H.out.mono ?_); rintro e w1 ⟨rfl, hb1⟩)
          go_ret
          exact ⟨by rw [HE.out]; rfl, hbel.drew.trans (hb1.mono hbel.size)⟩
      · obtain rfl : k = xs.length := by omega
        have HE := Lib.hid (sameT_all HL.out (fun j x y h1 h2 => HS.out j x y (List.getElem?_eq_some_iff.1 h1).1 h1 h2))
        go_wp2
        go_ret
        exact ⟨by rw [HE.out]; rfl, hbel⟩
  · have hl' : ((xs.length : Int) == (ys.length : Int)) = false := by rw [beq_eq_false_iff_ne]; omega
    have hl'' : ((xs.length : Int) != (ys.length : Int)) = true := by rw [bne_iff_ne]; omega
    have HE := Lib.hid (sameT_len hl)
    clear hl
    go_enter Try.func46, Try.ntmps46
    go_wp2
    go_ret
    exact ⟨by rw [HE.out]; rfl, Below.refl _ _⟩

def sameSys (a b : Sys) : Bool := sameT a.states b.states && sameA3 a.steps b.steps
theorem sameSys_refl (a : Sys) : sameSys a a = true := by simp [sameSys, sameT_refl, sameA3]

set_option maxHeartbeats 1000000 in
theorem eqSystem_any (v u : Value) (a b : Sys) (w : World) (hv : RSys w v a) (hu : RSys w u b) (ha : costSys a ≤ 16777216) (hb : costSys b ≤ 16777216) :
    Calls Try.prog 14 #[v, u] w fun e w' => e = .returned (.bool (sameSys a b)) ∧ Below w.heap.size w w' := by
  obtain ⟨sv, tv, rfl, hs, ht⟩ := hv
  obtain ⟨su, tu, rfl, hs', ht'⟩ := hu
  have sa := cost_small (show costL costBig a.states ≤ 16777216 by unfold costSys at ha; omega)
  have sb := cost_small (show costL costBig b.states ≤ 16777216 by unfold costSys at hb; omega)
  have ta : a.steps.length ≤ 16777216 := by unfold costSys at ha; omega
  have tb : b.steps.length ≤ 16777216 := by unfold costSys at hb; omega
  have hb1 : ∀ o1 o2, Below w.heap.size w ((w.alloc o1).alloc o2) := fun o1 o2 => ((Below.refl _ _).alloc (Nat.le_refl _) o1).alloc (by simp) o2
  have H1 := Lib.hid (fun o1 o2 => eqBigraphS_any sv su a.states b.states ((w.alloc o1).alloc o2) (hs.below RBig_keep (hb1 _ _)) (hs'.below RBig_keep (hb1 _ _)) sa.1 sb.1 sa.2 sb.2)
  clear sa sb
  go_enter Try.func14, Try.ntmps14
  go_wp2_with fail
  refine (H1.out _ _).mono ?_
  rintro e w1 ⟨rfl, hw1⟩
  have c1 : w1.cell? ⟨w.heap.size, 1, none⟩ = some tv := by rw [hw1.cell (by simp; omega)]; simp
  have c2 : w1.cell? ⟨w.heap.size + 1, 1, none⟩ = some tu := by rw [hw1.cell (by simp)]; simp
  have hz := (hb1 _ _).trans (hw1.mono (hb1 _ _).size)
  have H2 := Lib.hid (eqIntA3S_any tv tu a.steps b.steps w1 (ht.below hz) (ht'.below hz) ta tb)
  have HZ := Lib.hid hz
  clear hw1 hz
  cases hx : sameT a.states b.states
  · go_wp2_with fail
    go_ret
    exact ⟨by simp [sameSys, hx], HZ.out⟩
  · go_wp2_with ((with_reducible refine H2.out.mono ?_); rintro e w2 ⟨rfl, hw2⟩)
    all_goals (go_ret; refine ⟨?_, HZ.out.trans (hw2.mono HZ.out.size)⟩; simp_all [sameSys])

end Go.Proofs.Ytlgdmafgbmnjdaa
