/- The teller's function literals; slices.ContainsFunc at numbers: walked. The teller's conjunction of formulas, walked, by what tell gives. -/
import Derived.Test.YtdgnhfhaaghoaaaGreatDoorProg
import Derived.Test.YtdgnhfhaaghoaaaGreatDoorJ21
import Derived.Test.YtdgnhfhaaghoaaaGreatDoorJ2
import Derived.Test.YtdgnhfhaaghoaaaGreatDoorJ20
set_option linter.unusedSimpArgs false
set_option linter.unusedVariables false
namespace Go.Proofs.YtdgnhfhaaghoaaaGreatDoor
open Go.RowKit

set_option maxRecDepth 100000 in
set_option maxHeartbeats 1000000 in
theorem indexFuncI_any (A : Option Addr) (c : Nat) (xs : List Int) (F : FuncId) (cap : Array Value) (p : Nat → Bool) (w : World) (hn : xs.length ≤ 16777216) (hA : Cells w A (ints xs))
    (hF : ∀ (args : Array Value) (w : World), (callFunc F args).run Tryz.prog w = .ok (.enter F args) w)
    (hcall : ∀ (k : Nat) (W : World), k < xs.length → Below w.heap.size w W → Calls Tryz.prog F (#[.int .i64 (xs.getD k 0)] ++ cap) W fun e W' => e = .returned (.bool (p k)) ∧ Below W.heap.size W W') :
    Calls Tryz.prog 173 #[.slice A xs.length c, .func (.func F) #[] cap] w fun e w' => e = .returned (.int .i64 (idxR xs.length p)) ∧ Below w.heap.size w w' := by
  have HC := Lib.hid hcall
  clear hcall
  go_enter Tryz.func173, Tryz.ntmps173
  go_wp2_with fail
  go_loopw [8] (fun i wr => ∃ k : Nat, k ≤ xs.length ∧ i = .int .i64 k ∧ (∀ j, j < k → p j = false) ∧ Below w.heap.size w wr)
    (fun i _ => xs.length - (intOf i).toNat)
  case atStart => exact ⟨0, Nat.zero_le _, rfl, fun j hj => by omega, Below.refl _ _⟩
  case round =>
    obtain ⟨k, hk, rfl, hall, hbel⟩ := hrel
    have HALL := Lib.hid hall
    clear hall
    by_cases hlt : k < xs.length
    · obtain ⟨b, o, rfl, hc⟩ := (hA.below hbel).int hlt
      have hck := hc k hlt
      have H := Lib.hid (HC.out k wr hlt hbel)
      have HB := Lib.hid hbel
      clear hc hA hbel
      generalize xs.getD k 0 = y at *
      cases hp : p k
      · have HN := Lib.hid (none_next HALL.out hp)
        rw [hp] at H
        clear hp
        go_wp2_with ((with_reducible refine H.out.mono ?_); rintro e w1 ⟨rfl, hb1⟩)
        go_roundw
        case rel => exact ⟨k + 1, by omega, by go_num, HN.out, HB.out.trans (hb1.mono HB.out.size)⟩
        case measure => simp [intOf]; omega
      · have HE := Lib.hid (idxR_some hlt HALL.out hp)
        rw [hp] at H
        clear hp
        go_wp2_with ((with_reducible refine H.out.mono ?_); rintro e w1 ⟨rfl, hb1⟩)
        go_ret
        exact ⟨by rw [HE.out]; rfl, HB.out.trans (hb1.mono HB.out.size)⟩
    · obtain rfl : k = xs.length := by omega
      have HE := Lib.hid (idxR_none HALL.out)
      go_wp2
      go_ret
      exact ⟨by rw [HE.out]; rfl, hbel⟩

set_option maxHeartbeats 1000000 in
theorem containsFuncI_any (A : Option Addr) (c : Nat) (xs : List Int) (F : FuncId) (cap : Array Value) (p : Nat → Bool) (w : World) (hn : xs.length ≤ 16777216) (hA : Cells w A (ints xs))
    (hF : ∀ (args : Array Value) (w : World), (callFunc F args).run Tryz.prog w = .ok (.enter F args) w)
    (hcall : ∀ (k : Nat) (W : World), k < xs.length → Below w.heap.size w W → Calls Tryz.prog F (#[.int .i64 (xs.getD k 0)] ++ cap) W fun e W' => e = .returned (.bool (p k)) ∧ Below W.heap.size W W') :
    Calls Tryz.prog 129 #[.slice A xs.length c, .func (.func F) #[] cap] w fun e w' => e = .returned (.bool (anyR xs.length p)) ∧ Below w.heap.size w w' := by
  have H := Lib.hid (indexFuncI_any A c xs F cap p w hn hA hF hcall)
  have HI := Lib.hid (idxR_any xs.length p)
  clear hF hcall hA
  go_enter Tryz.func129, Tryz.ntmps129
  go_wp2_with ((with_reducible refine H.out.mono ?_); rintro e w1 ⟨rfl, hb1⟩)
  go_ret
  exact ⟨by rw [← HI.out]; rfl, hb1⟩

set_option maxRecDepth 100000 in
set_option maxHeartbeats 2000000 in
/-- parts[s] != parts[t] -/
theorem tell1_any (A : Option Addr) (n c bs bt s t : Nat) (xs : List Int) (w : World) (hx : xs.length = n) (hn : n ≤ 40) (hs : s < n) (ht : t < n) (hA : Cells w A (ints xs)) (cs : w.cell? ⟨bs, 0, none⟩ = some (.int .i64 s)) (ct : w.cell? ⟨bt, 0, none⟩ = some (.int .i64 t)) :
    Calls Tryz.prog 126 #[.slice A n c, .pointer (some ⟨bs, 0, none⟩), .pointer (some ⟨bt, 0, none⟩)] w fun e w' => e = .returned (.bool (xs.getD s 0 != xs.getD t 0)) ∧ Below w.heap.size w w' := by
  obtain ⟨b, o, rfl, hc⟩ := hA.int (k := s) (by omega)
  have c1 := hc s (by omega)
  have c2 := hc t (by omega)
  have q0 : (0 : Int) ≤ (s : Int) := by omega
  have q1 : (s : Int) < (n : Int) := by omega
  have q2 : (0 : Int) ≤ (t : Int) := by omega
  have q3 : (t : Int) < (n : Int) := by omega
  clear hc hA hx
  generalize xs.getD s 0 = a at *
  generalize xs.getD t 0 = d at *
  go_enter Tryz.func126, Tryz.ntmps126
  go_wp2_with fail
  go_quiet (fail)
  go_wp2_with fail
  go_ret
  exact ⟨rfl, below_drewN' (Below.refl _ _) nq⟩

set_option maxRecDepth 100000 in
set_option maxHeartbeats 2000000 in
/-- parts[k] == parts[step[2]] -/
theorem tell2_any (bp bx : Nat) (A : Option Addr) (n c k z : Nat) (xs : List Int) (w : World) (hx : xs.length = n) (hn : n ≤ 40) (hk : k < n) (hz : z < n) (hA : Cells w A (ints xs)) (cp : w.cell? ⟨bp, 0, none⟩ = some (.slice A n c)) (cz : w.cell? ⟨bx, 2, none⟩ = some (.int .i64 z)) :
    Calls Tryz.prog 130 #[.int .i64 k, .pointer (some ⟨bp, 0, none⟩), .pointer (some ⟨bx, 0, none⟩)] w fun e w' => e = .returned (.bool (xs.getD k 0 == xs.getD z 0)) ∧ Below w.heap.size w w' := by
  obtain ⟨b, o, rfl, hc⟩ := hA.int (k := k) (by omega)
  have c1 := hc k (by omega)
  have c2 := hc z (by omega)
  have q0 : (0 : Int) ≤ (k : Int) := by omega
  have q1 : (k : Int) < (n : Int) := by omega
  have q2 : (0 : Int) ≤ (z : Int) := by omega
  have q3 : (z : Int) < (n : Int) := by omega
  clear hc hA hx
  generalize xs.getD k 0 = a at *
  generalize xs.getD z 0 = d at *
  go_enter Tryz.func130, Tryz.ntmps130
  go_wp2_with fail
  go_quiet (fail)
  go_wp2_with fail
  go_ret
  exact ⟨rfl, below_drewN' (Below.refl _ _) nq⟩

end Go.Proofs.YtdgnhfhaaghoaaaGreatDoor

set_option linter.unusedVariables false
namespace Go.Proofs.YtdgnhfhaaghoaaaGreatDoor
open Go.RowKit

theorem chk_len {f g : List Int} (h : chkF f = some g) : g.length ≤ 200 := by
  unfold chkF at h
  split at h
  · injection h with h; rw [← h]; assumption
  · cases h
theorem apart_len {l : Lab} : ∀ {f s t : Nat} {g : List Int}, apart l f s t = some g → g.length ≤ 200
  | 0, s, t, g, h => by cases h
  | f + 1, s, t, g, h => by
    rw [apart] at h
    split at h
    · cases h
    · injection h with h
      rw [← h]
      unfold markF
      split
      · split <;> simp
      · simp
    · split at h
      · rw [Option.bind_eq_some_iff] at h
        obtain ⟨a, _, h⟩ := h
        exact chk_len h
      · rw [Option.bind_eq_some_iff] at h
        obtain ⟨a, _, h⟩ := h
        exact chk_len h
theorem allP_len {ap : Int → Option (List Int)} (hap : ∀ o a, ap o = some a → a.length ≤ 200) : ∀ {os : List Int} {r : List Int}, allP ap os = some r → r.length ≤ 200
  | [], r, h => by simp [allP] at h; simp [← h]
  | [o], r, h => hap o r h
  | o :: q :: os, r, h => by
    rw [allP] at h
    split at h
    · cases h
    · split at h
      · cases h
      · exact chk_len h

theorem Tlr.keptS {w0 w w' : World} {p : Nat} {sv tv rv : Value} {bad : Bool} {S : Nat → Prop} (h : Tlr w0 p sv tv rv bad w) (hk : Kept S w w') (hS : ∀ q, S q → w0.heap.size ≤ q) (hn : ¬ S p) : Tlr w0 p sv tv rv bad w' :=
  ⟨h.b.trans (hk.below hS h.b.size), (hk.block p h.lt hn).trans h.c⟩
/-- What tell and all give: the formula, in new memory, or nothing, and the mark that it has become too long. -/
def TRes (w0 : World) (p : Nat) (sv tv rv : Value) (w w' : World) (r : Value) : Option (List Int) → Prop
  | some g => Tlr w0 p sv tv rv false w' ∧ w'.ownsRow w.heap.size 3 1 r g.length (ints g)
  | none => Tlr w0 p sv tv rv true w' ∧ r = .slice none 0 0

set_option maxRecDepth 100000 in
set_option maxHeartbeats 4000000 in
theorem all_any (w0 : World) (p : Nat) (sv tv rv : Value) (hp : w0.heap.size ≤ p) (s : Nat) (ap : Int → Option (List Int)) (hap : ∀ o a, ap o = some a → a.length ≤ 200) (Ok : Int → Prop)
    (HT : ∀ (o : Int) (w : World), Ok o → Tlr w0 p sv tv rv false w → Calls Tryz.prog 56 #[.pointer (some ⟨p, 0, none⟩), .int .i64 s, .int .i64 o] w fun e w' => ∃ r, e = .returned r ∧ Kept (fun q => q = p) w w' ∧ TRes w0 p sv tv rv w w' r (ap o)) :
    ∀ (os : List Int) (b o c : Nat) (w : World), (∀ x ∈ os, Ok x) → b ≠ p → os.length ≤ c → os.length ≤ 1000000 → (∀ j, j < os.length → w.cell? ⟨b, o + j, none⟩ = some (.int .i64 (os.getD j 0))) → Tlr w0 p sv tv rv false w →
      Calls Tryz.prog 132 #[.pointer (some ⟨p, 0, none⟩), .int .i64 s, .slice (some ⟨b, o, none⟩) os.length c] w fun e w' => ∃ r, e = .returned r ∧ Kept (fun q => q = p) w w' ∧ TRes w0 p sv tv rv w w' r (allP ap os) := by
  intro os
  induction os with
  | nil =>
    intro b o c w _ _ _ _ _ hT
    have HO := Lib.hid (ownsRow_lit (n := 1) (w := w.alloc (.cells #[.int .i64 0] 3)) (xs := [.int .i64 0]) (heap_alloc_new _ _) rfl (by unfold maxLen; omega))
    have HT' := Lib.hid (hT.below ((Below.refl _ w).alloc (Nat.le_refl _) (.cells #[.int .i64 0] 3)))
    have HK := Lib.hid (Kept.of_below ((Below.refl _ w).alloc (Nat.le_refl _) (.cells #[.int .i64 0] 3)) (fun q => q = p))
    clear hT HT
    go_enter Tryz.func132, Tryz.ntmps132
    go_wp2_with fail
    go_ret
    exact ⟨_, rfl, HK.out, HT'.out, HO.out⟩
  | cons x os ih =>
    intro b o c w hok hbp hlc hl hcs hT
    have hx := hok x (List.mem_cons_self)
    have c0 := hcs 0 (by simp)
    rw [Nat.add_zero] at c0
    have c0 : w.cell? ⟨b, o, none⟩ = some (.int .i64 x) := c0
    have HC1 := Lib.hid (HT x w hx hT)
    cases os with
    | nil =>
      clear HT ih hcs hT hok
      go_enter Tryz.func132, Tryz.ntmps132
      go_wp2_with fail
      (with_reducible refine HC1.out.mono ?_)
      rintro e w1 ⟨r, rfl, hk, hr⟩
      have HK := Lib.hid hk
      have HR := Lib.hid hr
      clear hk hr
      go_wp2_with fail
      go_ret
      exact ⟨_, rfl, HK.out, HR.out⟩
    | cons y os =>
      have hpw := hT.lt
      have hcl : ∀ j, j < (y :: os).length → w.cell? ⟨b, (o + 1) + j, none⟩ = some (.int .i64 ((y :: os).getD j 0)) := fun j hj => by
        have := hcs (j + 1) (by simp at hj ⊢; omega)
        rw [show o + 1 + j = o + (j + 1) by omega]
        exact this
      have HCL := Lib.hid hcl
      have HIH := Lib.hid (fun w' c' hc' hcc hT' => ih b (o + 1) c' w' (fun z hz => hok z (List.mem_cons_of_mem _ hz)) hbp hc' (by simp at hl ⊢; omega) hcc hT')
      have hw0p := hT.b.size
      obtain ⟨n, hn⟩ : ∃ n, n = (y :: os).length := ⟨_, rfl⟩
      have hnx : (x :: y :: os).length = n + 1 := by rw [hn]; rfl
      have hn1 : 1 ≤ n := by rw [hn]; simp
      have hblt : b < w.heap.size := lt_of_cell c0
      rw [hnx] at hlc hl ⊢
      have q0 : decide ((n : Int) + 1 = 0) = false := by simp; omega
      have e0 : (((n : Int) + 1) == 0) = false := by rw [beq_eq_false_iff_ne]; omega
      have e1 : (((n : Int) + 1) == 1) = false := by rw [beq_eq_false_iff_ne]; omega
      have HN := Lib.hid hn
      clear HT ih hcs hT hok hcl hn hnx
      cases hax : ap x with
      | none =>
        rw [hax] at HC1
        have HALL := Lib.hid (show allP ap (x :: y :: os) = none from by rw [allP, hax])
        clear hax
        go_enter Tryz.func132, Tryz.ntmps132
        go_wp2_with fail
        (with_reducible refine HC1.out.mono ?_)
        rintro e w1 ⟨r, rfl, hk, hT1, rfl⟩
        obtain ⟨⟨_, _, _, c3⟩, _⟩ := teller_cells hT1.c
        have HT1 := Lib.hid hT1
        have HK := Lib.hid hk
        clear hk hT1
        go_wp2_with fail
        go_ret
        exact ⟨_, rfl, HK.out, by rw [HALL.out]; exact ⟨HT1.out, rfl⟩⟩
      | some a =>
        rw [hax] at HC1
        have hal := hap x a hax
        have HAX := Lib.hid hax
        clear hax
        go_enter Tryz.func132, Tryz.ntmps132
        go_wp2_with fail
        (with_reducible refine HC1.out.mono ?_)
        rintro e w1 ⟨r1, rfl, hk1, hT1, ho1⟩
        obtain ⟨A1, ac, rfl, ho1⟩ := owns_form ho1
        obtain ⟨⟨_, _, _, c3⟩, _⟩ := teller_cells hT1.c
        have hs1 := hk1.size
        obtain ⟨W2, hW2⟩ : ∃ W2, W2 = w1.alloc (.cells #[.int .i64 3] 3) := ⟨_, rfl⟩
        have hb2 : Below w1.heap.size w1 W2 := by rw [hW2]; exact (Below.refl _ _).alloc (Nat.le_refl _) _
        have ho2 : W2.ownsRow w1.heap.size 3 1 (.slice (some ⟨w1.heap.size, 0, none⟩) 1 1) 1 [.int .i64 3] := by rw [hW2]; exact ownsRow_lit (xs := [.int .i64 3]) (heap_alloc_new _ _) rfl (by unfold maxLen; omega)
        have hk2 : Kept (fun q => q = p) w W2 := hk1.trans (Kept.of_below hb2 _)
        have hT2 := hT1.below hb2
        have hcs2 : ∀ j, j < (y :: os).length → W2.cell? ⟨b, (o + 1) + j, none⟩ = some (.int .i64 ((y :: os).getD j 0)) := fun j hj => kept_cell hk2 (HCL.out j hj) hbp
        have HC2 := HIH.out W2 (c - 1) (by rw [← HN.out]; omega) hcs2 hT2
        rw [← HN.out] at HC2
        have HC2 := Lib.hid HC2
        have HO1 := Lib.hid (owns_below ho1 hb2 (Nat.le_refl _))
        have HO2 := Lib.hid ho2
        have HK2 := Lib.hid hk2
        have HW2 := Lib.hid hW2
        have hs2 := hb2.size
        have q1 : (1 : Int) ≤ ((n : Int) + 1) := by omega
        have q2 : ((n : Int) + 1) ≤ (c : Int) := by omega
        have hc1 : ¬ c = 1 := by omega
        have hc2 : ¬ 1 = c := by omega
        clear hk1 hT1 ho1 hb2 ho2 hk2 hT2 hcs2 hW2
        go_wp2_with fail
        rw [← HW2.out]
        (with_reducible refine HC2.out.mono ?_)
        rintro e w3 ⟨r2, rfl, hk3, hr3⟩
        have hs3 := hk3.size
        have hk23 := HK2.out.trans hk3
        have ho1 := owns_keptP HO1.out hpw hk3
        have ho2 := owns_keptP HO2.out (by omega) hk3
        have hcat : ∀ (A2 : Option Addr) (m2 c2 : Nat) (ys : List Value) (bad : Bool), m2 = ys.length → ys.length ≤ 200 → (∀ u ∈ ys, u.oneCell' = true) → Cells w3 A2 ys → Tlr w0 p sv tv rv bad w3 → ∃ W4, W4 = w3.alloc (.cells #[.slice (some ⟨w1.heap.size, 0, none⟩) 1 1, .slice A1 a.length ac, .slice A2 m2 c2] 30) ∧ Tlr w0 p sv tv rv bad W4 ∧ Below w3.heap.size w3 W4 ∧
            Calls Tryz.prog 152 #[.slice (some ⟨w3.heap.size, 0, none⟩) 3 3] W4 (fun e w' => ∃ r, e = .returned r ∧ w'.ownsRow W4.heap.size 3 1 r (1 + a.length + ys.length) (.int .i64 3 :: (ints a ++ ys)) ∧ Below W4.heap.size W4 w') := fun A2 m2 c2 ys bad hm hyl hyo hyc hT3 => by
          refine ⟨_, rfl, hT3.below ((Below.refl _ _).alloc (Nat.le_refl _) _), (Below.refl _ _).alloc (Nat.le_refl _) _, ?_⟩
          subst hm
          have hb4 : Below w3.heap.size w3 (w3.alloc (.cells #[.slice (some ⟨w1.heap.size, 0, none⟩) 1 1, .slice A1 a.length ac, .slice A2 ys.length c2] 30)) := (Below.refl _ _).alloc (Nat.le_refl _) _
          have hfl : [[Value.int .i64 3], ints a, ys].flatten = .int .i64 3 :: (ints a ++ ys) := by simp
          have hll : [[Value.int .i64 3], ints a, ys].flatten.length = 1 + a.length + ys.length := by rw [hfl]; simp [ints]; omega
          have h := concatI_any (.slice (some ⟨w3.heap.size, 0, none⟩) 3 3) [[.int .i64 3], ints a, ys] (by simp) (by rw [hll]; omega) (by rw [hfl]; intro u hu; simp only [List.mem_cons, List.mem_append] at hu; rcases hu with rfl | hu | hu; rfl; exact ints_one _ _ hu; exact hyo _ hu)
            (w := w3.alloc (.cells #[.slice (some ⟨w1.heap.size, 0, none⟩) 1 1, .slice A1 a.length ac, .slice A2 ys.length c2] 30)) ⟨_, _, [.slice (some ⟨w1.heap.size, 0, none⟩) 1 1, .slice A1 a.length ac, .slice A2 ys.length c2], rfl, rfl, cells_of_heap (heap_alloc_new _ _), fun i u zs hu hz => by
              match i, hu, hz with
              | 0, hu, hz => simp at hu hz; subst hu hz; exact ⟨_, _, rfl, (Cells.of_owns ho2).below hb4⟩
              | 1, hu, hz => simp at hu hz; subst hu hz; exact ⟨A1, ac, by rw [ints, List.length_map], (Cells.of_owns ho1).below hb4⟩
              | 2, hu, hz => simp at hu hz; subst hu hz; exact ⟨_, _, rfl, hyc.below hb4⟩
              | i + 3, hu, hz => simp at hu⟩
          rw [hll, hfl] at h
          exact h
        cases hr : allP ap (y :: os) with
        | none =>
          rw [hr] at hr3
          obtain ⟨hT3, rfl⟩ := hr3
          obtain ⟨W4, hW4, hT4, hb4, hc4⟩ := hcat none 0 0 [] true rfl (by simp) (fun u hu => by simp at hu) (Cells.nil _ _) hT3
          have HALL := Lib.hid (show allP ap (x :: y :: os) = none from by rw [allP, HAX.out, hr])
          have HC4 := Lib.hid hc4
          have HW4 := Lib.hid hW4
          have HT4 := Lib.hid hT4
          have HK4 := Lib.hid (hk23.trans (Kept.of_below hb4 _))
          clear hcat hT3 hW4 hT4 hb4 hc4 hr hk3 hk23 ho1 ho2
          go_wp2_with fail
          rw [← HW4.out]
          (with_reducible refine HC4.out.mono ?_)
          rintro e w5 ⟨r5, rfl, hr5, hb5⟩
          obtain ⟨A5, c5, rfl, hr5⟩ := owns_form hr5
          have hT5 := HT4.out.below hb5
          have HCK := Lib.hid (checked_bad w0 p sv tv rv A5 (1 + a.length) c5 w5 hT5)
          have HT5 := Lib.hid (hT5.set hp true)
          have HK5 := Lib.hid ((HK4.out.trans (Kept.of_below hb5 _)).trans (hT5.kept hp true))
          clear hr5 hb5 hT5
          go_wp2_with fail
          (with_reducible refine HCK.out.mono ?_)
          rintro e w6 ⟨rfl, rfl⟩
          go_wp2_with fail
          go_ret
          exact ⟨_, rfl, HK5.out, by rw [HALL.out]; exact ⟨HT5.out, rfl⟩⟩
        | some g =>
          rw [hr] at hr3
          obtain ⟨hT3, ho3⟩ := hr3
          have hgl := allP_len hap hr
          obtain ⟨A2, c2, rfl, ho3⟩ := owns_form ho3
          obtain ⟨W4, hW4, hT4, hb4, hc4⟩ := hcat A2 g.length c2 (ints g) false (by simp [ints]) (by simpa [ints] using hgl) (ints_one _) (Cells.of_owns ho3) hT3
          have HALL := Lib.hid (show allP ap (x :: y :: os) = chkF (3 :: (a ++ g)) from by rw [allP, HAX.out, hr])
          have HC4 := Lib.hid hc4
          have HW4 := Lib.hid hW4
          have HT4 := Lib.hid hT4
          have hb34 := hk23.trans (Kept.of_below hb4 _)
          have hs4 := hb34.size
          have HK4 := Lib.hid hb34
          clear hcat hT3 hW4 hT4 hb4 hc4 hr hk3 hk23 ho1 ho2 ho3 hb34
          go_wp2_with fail
          rw [← HW4.out]
          (with_reducible refine HC4.out.mono ?_)
          rintro e w5 ⟨r5, rfl, hr5, hb5⟩
          obtain ⟨A5, c5, rfl, hr5⟩ := owns_form hr5
          have hT5 := HT4.out.below hb5
          have hk5 := HK4.out.trans (Kept.of_below hb5 _)
          have hr5' : w5.ownsRow w.heap.size 3 1 (.slice A5 (1 + a.length + (ints g).length) c5) (3 :: (a ++ g)).length (ints (3 :: (a ++ g))) := by
            have e1 : (3 :: (a ++ g)).length = 1 + a.length + (ints g).length := by simp [ints]; omega
            have e2 : ints (3 :: (a ++ g)) = .int .i64 3 :: (ints a ++ ints g) := by simp [ints]
            rw [e1, e2]
            exact owns_mono hr5 hs4
          have hnl : 1 + a.length + (ints g).length = (3 :: (a ++ g)).length := by simp [ints]; omega
          rw [hnl] at hr5' ⊢
          have hzl : (3 :: (a ++ g)).length ≤ 500 := by rw [List.length_cons, List.length_append]; omega
          clear hr5 hnl
          generalize h3 : 3 :: (a ++ g) = z at *
          clear h3
          by_cases hz : z.length ≤ 200
          · have HCK := Lib.hid (checked_ok w0 p sv tv rv A5 z.length c5 w5 hz hT5)
            have HF := Lib.hid (show chkF z = some z from by unfold chkF; rw [if_pos hz])
            have HT5 := Lib.hid (hT5.set hp false)
            have HK5 := Lib.hid (hk5.trans (hT5.kept hp false))
            have HO5 := Lib.hid (owns_keptP hr5' hpw (hT5.kept hp false))
            clear hr5' hb5 hT5 hk5 hz
            go_wp2_with fail
            (with_reducible refine HCK.out.mono ?_)
            rintro e w6 ⟨rfl, rfl⟩
            go_wp2_with fail
            go_ret
            exact ⟨_, rfl, HK5.out, by rw [HALL.out, HF.out]; exact ⟨HT5.out, HO5.out⟩⟩
          · have HCK := Lib.hid (checked_long w0 p sv tv rv A5 z.length c5 w5 (by omega) (by omega) hT5)
            have HF := Lib.hid (show chkF z = none from by unfold chkF; rw [if_neg hz])
            have HT5 := Lib.hid (hT5.set hp true)
            have HK5 := Lib.hid (hk5.trans (hT5.kept hp true))
            clear hr5' hb5 hT5 hk5 hz
            go_wp2_with fail
            (with_reducible refine HCK.out.mono ?_)
            rintro e w6 ⟨rfl, rfl⟩
            go_wp2_with fail
            go_ret
            exact ⟨_, rfl, HK5.out, by rw [HALL.out, HF.out]; exact ⟨HT5.out, rfl⟩⟩

end Go.Proofs.YtdgnhfhaaghoaaaGreatDoor
