/- Systems marked: the number that is handed on, and what stays. -/
import Derived.Test.YtlgdmafgbmnjdaaProg
import Derived.Test.YtlgdmafgbmnjdaaSysTo
import Derived.Test.YtlgdmafgbmnjdaaMark
import Derived.Test.YtlgdmafgbmnjdaaText
set_option linter.unusedVariables false
namespace Go.Proofs.Ytlgdmafgbmnjdaa
open Go.RowKit

theorem OSl.own {α : Type} {O : World → (Nat → Prop) → List Value → α → Prop} {sz : Nat} {w : World} {S : Nat → Prop} {v : Value} {l : List α} (h : OSl O sz w S v l) : ∃ cs, cs.length = l.length * sz ∧ Own w S v l.length cs := by
  obtain ⟨css, S0, T, h0, hl, hsz, _, a1, _⟩ := h
  exact ⟨css.flatten, by rw [flat_length hsz, hl], h0.mono a1⟩

theorem setL_length {α : Type} : ∀ (cs l : List α) (i : Nat), (setL l i cs).length = l.length
  | [], l, i => rfl
  | c :: cs, l, i => by rw [setL, setL_length cs]; simp

theorem Own.setCs {w : World} {S : Nat → Prop} {n : Nat} {g o c : Nat} : ∀ (us : List Value) (w : World) (cs : List Value) (k : Nat), Own w S (.slice (some ⟨g, o, none⟩) n c) n cs → k + us.length ≤ cs.length →
    Own (w.setCells g (o + k) us) S (.slice (some ⟨g, o, none⟩) n c) n (setL cs k us)
  | [], w, cs, k, h, _ => h
  | u :: us, w, cs, k, h, hk => by
    have h1 := h.set k u rfl (by simp at hk; omega)
    have := Own.setCs (w := w) us (w.setCell ⟨g, o + k, none⟩ u) (cs.set k u) (k + 1) h1 (by simp at hk ⊢; omega)
    exact this

set_option maxRecDepth 100000 in
set_option maxHeartbeats 2000000 in
theorem markStringS_any (S : Nat → Prop) (v : Value) (n : Nat) (cs : List Value) (k : Int) (w : World) (hn : n ≤ 16777216) (hk0 : 0 < k) (hk1 : k ≤ 1000000000) (hl : cs.length = n) (hv : Own w S v n cs) :
    Calls Try.prog 77 #[v, .int .i64 k] w fun e w' => e = .returned (.int .i64 (k + n)) ∧ Kept S w w' := by
  obtain ⟨A, c, e, _⟩ := id hv
  subst e
  have HV0 := Lib.hid hv
  clear hv
  go_enter Try.func77, Try.ntmps77
  go_wp2_with fail
  go_loopw [1, 5] (fun kk i wr => ∃ (j : Nat) (ds : List Value), j ≤ n ∧ i = .int .i64 j ∧ kk = .int .i64 (k + (j : Int)) ∧ ds.length = n ∧ Own wr S (.slice A n c) n ds ∧ Kept S w wr)
    (fun _ i _ => n - (intOf i).toNat)
  case atStart => exact ⟨0, cs, Nat.zero_le _, rfl, by simp, hl, HV0.out, Kept.refl _ _⟩
  case round =>
    obtain ⟨j, ds, hj, rfl, rfl, hdl, hown, hkept⟩ := hrel
    have HO := Lib.hid hown
    have HK := Lib.hid hkept
    clear hown hkept
    by_cases hlt : j < n
    · have H := Lib.hid (markText_any (k + (j : Int)) wr (by omega) (by omega))
      go_wp2_with fail
      refine H.out.mono ?_
      rintro e w1 ⟨rfl, hb1⟩
      have hO1 := HO.out.below hb1 (Nat.le_refl _)
      obtain ⟨g, o, c', e, hg, hc⟩ := hO1.at_ (k := j) (by omega)
      cases e
      obtain ⟨h1, f1⟩ := hc j _ (List.getElem?_eq_getElem (by omega))
      have HN := Lib.hid (hO1.set j (.string (mText (k + (j : Int)))) rfl (by omega))
      have HKN := Lib.hid ((HK.out.trans (.of_below hb1 _)).setCell (p := ⟨g, o + j, none⟩) hg (.string (mText (k + (j : Int)))))
      clear hc hO1 hb1
      generalize ds[j] = y1 at h1
      go_wp2_with fail
      go_roundw
      case rel => exact ⟨j + 1, _, by omega, by go_num, by go_num, by simpa using hdl, HN.out, HKN.out⟩
      case measure => simp [intOf]; omega
    · obtain rfl : j = n := by omega
      go_wp2_with fail
      go_ret
      exact ⟨rfl, HK.out⟩

set_option maxRecDepth 100000 in
set_option maxHeartbeats 2000000 in
theorem markWireS_any (S : Nat → Prop) (v : Value) (n : Nat) (cs : List Value) (k : Int) (w : World) (hn : n ≤ 16777216) (hk0 : 0 < k) (hk1 : k ≤ 1000000000) (hl : cs.length = n * 2) (hv : Own w S v n cs) :
    Calls Try.prog 78 #[v, .int .i64 k] w fun e w' => e = .returned (.int .i64 (k + 2 * (n : Int))) ∧ Kept S w w' := by
  obtain ⟨A, c, e, _⟩ := id hv
  subst e
  have HV0 := Lib.hid hv
  clear hv
  go_enter Try.func78, Try.ntmps78
  go_wp2_with fail
  go_loopw [1, 5] (fun kk i wr => ∃ (j : Nat) (ds : List Value), j ≤ n ∧ i = .int .i64 j ∧ kk = .int .i64 (k + 2 * (j : Int)) ∧ ds.length = n * 2 ∧ Own wr S (.slice A n c) n ds ∧ Kept S w wr)
    (fun _ i _ => n - (intOf i).toNat)
  case atStart => exact ⟨0, cs, Nat.zero_le _, rfl, by simp, hl, HV0.out, Kept.refl _ _⟩
  case round =>
    obtain ⟨j, ds, hj, rfl, rfl, hdl, hown, hkept⟩ := hrel
    have HO := Lib.hid hown
    have HK := Lib.hid hkept
    clear hown hkept
    by_cases hlt : j < n
    · have H := Lib.hid (markText_any (k + 2 * (j : Int)) wr (by omega) (by omega))
      go_wp2_with fail
      refine H.out.mono ?_
      rintro e w1 ⟨rfl, hb1⟩
      have hO1 := HO.out.below hb1 (Nat.le_refl _)
      obtain ⟨g, o, c', e, hg, hc⟩ := hO1.at_ (k := j * 2) (by omega)
      cases e
      obtain ⟨h1, f1⟩ := hc (j * 2) _ (List.getElem?_eq_getElem (by omega))
      obtain ⟨h2, f2⟩ := hc (j * 2 + 1) _ (List.getElem?_eq_getElem (by omega))
      have hn1 := Own.setCs (w := w1) [.string (mText (k + 2 * (j : Int))), .int .i64 (k + 2 * (j : Int) + 1)] w1 _ (j * 2) hO1 (by simp; omega)
      have HN := Lib.hid hn1
      have HKN := Lib.hid (kept_setCells hg [.string (mText (k + 2 * (j : Int))), .int .i64 (k + 2 * (j : Int) + 1)] w w1 (o + j * 2) (HK.out.trans (.of_below hb1 _)))
      clear hc hO1 hb1 hn1
      rw [← Nat.add_assoc] at h2 f2
      generalize ds[j * 2] = y1 at h1
      generalize ds[j * 2 + 1] = y2 at h2
      go_wp2_with fail
      go_roundw
      case rel => exact ⟨j + 1, _, by omega, by go_num, by go_num, by rw [setL_length]; exact hdl, HN.out, HKN.out⟩
      case measure => simp [intOf]; omega
    · obtain rfl : j = n := by omega
      go_wp2_with fail
      go_ret
      exact ⟨rfl, HK.out⟩

end Go.Proofs.Ytlgdmafgbmnjdaa
