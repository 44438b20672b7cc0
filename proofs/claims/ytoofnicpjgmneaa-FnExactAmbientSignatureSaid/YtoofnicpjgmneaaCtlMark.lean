/- Controls marked and asked for the mark; the law of the ambients' signature. -/
import Derived.Test.YtoofnicpjgmneaaProg
import Derived.Test.YtoofnicpjgmneaaCtl
import Derived.Deep.RegionHeld3
set_option linter.unusedVariables false
namespace Go.Proofs.Ytoofnicpjgmneaa
open Go.RowKit

/-- The first j of the elements are marked: M i is the mark of element i. -/
def markTo {α : Type} (enc : α → List Value) (M : Nat → α) (l : List α) (j : Nat) : List Value := ((List.range j).map M).flatMap enc ++ (l.drop j).flatMap enc

theorem enc_len {α : Type} {enc : α → List Value} {sz : Nat} (h : ∀ x, (enc x).length = sz) (l : List α) : (l.flatMap enc).length = l.length * sz := by
  induction l with
  | nil => simp
  | cons a r ih => rw [List.flatMap_cons, List.length_append, ih, h, List.length_cons, Nat.succ_mul]; omega
theorem markTo_len {α : Type} {enc : α → List Value} {sz : Nat} (h : ∀ x, (enc x).length = sz) (M : Nat → α) (l : List α) (j : Nat) (hj : j ≤ l.length) : (markTo enc M l j).length = l.length * sz := by
  unfold markTo
  rw [List.length_append, enc_len h, enc_len h, List.length_map, List.length_range, List.length_drop, ← Nat.add_mul]
  congr 1
  omega
theorem markTo_zero {α : Type} (enc : α → List Value) (M : Nat → α) (l : List α) : markTo enc M l 0 = l.flatMap enc := by simp [markTo]
theorem markTo_all {α : Type} (enc : α → List Value) (M : Nat → α) (l : List α) : markTo enc M l l.length = ((List.range l.length).map M).flatMap enc := by simp [markTo]
theorem markTo_set {α : Type} {enc : α → List Value} {sz : Nat} (h : ∀ x, (enc x).length = sz) (M : Nat → α) (l : List α) (j : Nat) (hj : j < l.length) :
    setL (markTo enc M l j) (j * sz) (enc (M j)) = markTo enc M l (j + 1) := by
  have hP : (((List.range j).map M).flatMap enc).length = j * sz := by rw [enc_len h]; simp
  unfold markTo
  rw [List.drop_eq_getElem_cons hj, List.flatMap_cons, ← hP, setL_mid _ _ _ _ (by rw [h, h]), List.range_succ]
  simp

theorem Own.setL {w : World} {S : Nat → Prop} {n : Nat} {g o c : Nat} : ∀ (us : List Value) (w : World) (cs : List Value) (k : Nat), Own w S (.slice (some ⟨g, o, none⟩) n c) n cs → k + us.length ≤ cs.length →
    Own (w.setCells g (o + k) us) S (.slice (some ⟨g, o, none⟩) n c) n (setL cs k us)
  | [], w, cs, k, h, _ => h
  | u :: us, w, cs, k, h, hk => by
    have h1 := h.set k u rfl (by simp at hk; omega)
    have := Own.setL (w := w) us (w.setCell ⟨g, o + k, none⟩ u) (cs.set k u) (k + 1) h1 (by simp at hk ⊢; omega)
    exact this

def mC (k : Int) (i : Nat) : Ctl := (mText (k + 3 * (i : Int)), k + 3 * (i : Int) + 1, k + 3 * (i : Int) + 2)
theorem encC_len (c : Ctl) : (encC c).length = 3 := rfl

set_option maxRecDepth 100000 in
set_option maxHeartbeats 2000000 in
theorem markControlS_any (S : Nat → Prop) (v : Value) (l : List Ctl) (k : Int) (w : World) (hn : l.length ≤ 16777216) (hk0 : 0 < k) (hk1 : k ≤ 1000000000) (hv : Own w S v l.length (l.flatMap encC)) :
    Calls Try.prog 7 #[v, .int .i64 k] w fun e w' => e = .returned (.int .i64 (k + 3 * (l.length : Int))) ∧ Own w' S v l.length (((List.range l.length).map (mC k)).flatMap encC) ∧ Kept S w w' := by
  obtain ⟨A, c, e, _⟩ := id hv
  subst e
  have hv0 : Own w S (.slice A l.length c) l.length (markTo encC (mC k) l 0) := by rw [markTo_zero]; exact hv
  have HV0 := Lib.hid hv0
  clear hv hv0
  go_enter Try.func7, Try.ntmps7
  go_wp2_with fail
  go_loopw [1, 5] (fun kk i wr => ∃ j : Nat, j ≤ l.length ∧ i = .int .i64 j ∧ kk = .int .i64 (k + 3 * (j : Int)) ∧ Own wr S (.slice A l.length c) l.length (markTo encC (mC k) l j) ∧ Kept S w wr)
    (fun _ i _ => l.length - (intOf i).toNat)
  case atStart => exact ⟨0, Nat.zero_le _, rfl, by simp, HV0.out, Kept.refl _ _⟩
  case round =>
    obtain ⟨j, hj, rfl, rfl, hown, hkept⟩ := hrel
    have HO := Lib.hid hown
    have HK := Lib.hid hkept
    clear hown hkept
    by_cases hlt : j < l.length
    · have hlen := markTo_len encC_len (mC k) l j hj
      have H := Lib.hid (markText_any (k + 3 * (j : Int)) wr (by omega) (by omega))
      go_wp2_with fail
      refine H.out.mono ?_
      rintro e w1 ⟨rfl, hb1⟩
      have hO1 := HO.out.below hb1 (Nat.le_refl _)
      obtain ⟨g, o, c', e, hg, hc⟩ := hO1.at_ (k := j * 3) (by omega)
      cases e
      obtain ⟨h1, f1⟩ := hc (j * 3) _ (List.getElem?_eq_getElem (by omega))
      obtain ⟨h2, f2⟩ := hc (j * 3 + 1) _ (List.getElem?_eq_getElem (by omega))
      obtain ⟨h3, f3⟩ := hc (j * 3 + 2) _ (List.getElem?_eq_getElem (by omega))
      have HN := Lib.hid (Own.setL (w := w1) (encC (mC k j)) w1 _ (j * 3) hO1 (by rw [encC_len]; omega))
      rw [markTo_set encC_len (mC k) l j hlt] at HN
      have HKN := Lib.hid (kept_setCells hg (encC (mC k j)) w w1 (o + j * 3) (HK.out.trans (.of_below hb1 _)))
      clear hc hO1 hb1
      rw [← Nat.add_assoc] at h2 f2 h3 f3
      generalize (markTo encC (mC k) l j)[j * 3] = y1 at h1
      generalize (markTo encC (mC k) l j)[j * 3 + 1] = y2 at h2
      generalize (markTo encC (mC k) l j)[j * 3 + 2] = y3 at h3
      go_wp2_with fail
      go_roundw
      case rel =>
        have e2 : k + 3 * (j : Int) + 1 + 1 = k + 3 * (j : Int) + 2 := by omega
        exact ⟨j + 1, by omega, by go_num, by go_num, by rw [e2]; exact HN.out, by rw [e2]; exact HKN.out⟩
      case measure => simp [intOf]; omega
    · obtain rfl : j = l.length := by omega
      go_wp2_with fail
      go_ret
      exact ⟨rfl, by rw [← markTo_all]; exact HO.out, HK.out⟩

theorem mC_at (k : Int) (n i : Nat) (h : i < n) : ((List.range n).map (mC k))[i]? = some (mC k i) := by simp [h]

set_option maxRecDepth 100000 in
set_option maxHeartbeats 2000000 in
theorem heldControlS_any (v : Value) (n : Nat) (k : Int) (w : World) (hn : n ≤ 16777216) (hk0 : 0 < k) (hk1 : k ≤ 1000000000) (hv : RSl RC 3 w v ((List.range n).map (mC k))) :
    Calls Try.prog 8 #[v, .int .i64 k] w fun e w' => e = .returned (.int .i64 (k + 3 * (n : Int))) ∧ Below w.heap.size w w' := by
  have HV := Lib.hid (show ∀ W, Below w.heap.size w W → RSl RC 3 W v ((List.range n).map (mC k)) from fun W hb => hv.below RC_keep hb)
  obtain ⟨A, c, rfl, _⟩ := hv.form
  have hlen : ((List.range n).map (mC k)).length = n := by simp
  rw [hlen] at HV ⊢
  clear hv
  go_enter Try.func8, Try.ntmps8
  go_wp2_with fail
  go_loopw [1, 5] (fun kk i wr => ∃ j : Nat, j ≤ n ∧ i = .int .i64 j ∧ kk = .int .i64 (k + 3 * (j : Int)) ∧ Below w.heap.size w wr)
    (fun _ i _ => n - (intOf i).toNat)
  case atStart => exact ⟨0, Nat.zero_le _, rfl, by simp, Below.refl _ _⟩
  case round =>
    obtain ⟨j, hj, rfl, rfl, hbel⟩ := hrel
    by_cases hlt : j < n
    · obtain ⟨b, o, c', cs, ev, hcl, hcr, hc⟩ := (HV.out wr hbel).at_ (by omega) (mC_at k n j hlt)
      rw [hlen] at ev
      cases ev
      subst hcr
      have k0 := hc 0 _ rfl
      have k1 := hc 1 _ rfl
      have k2 := hc 2 _ rfl
      rw [Nat.add_zero] at k0
      rw [← Nat.add_assoc] at k1 k2
      have HM := Lib.hid (markText_any (k + 3 * (j : Int)) wr.drew (by omega) (by omega))
      have s0 := str_eq (mText (k + 3 * (j : Int)))
      have n1 : ((k + 3 * (j : Int) + 1) != (k + 3 * (j : Int) + 1)) = false := by rw [bne_self_eq_false]
      have n2 : ((k + 3 * (j : Int) + 2) != (k + 3 * (j : Int) + 2)) = false := by rw [bne_self_eq_false]
      have b0 : (0 : Int) ≤ (j : Int) := by omega
      have b1 : (j : Int) < (n : Int) := by omega
      have HB := Lib.hid hbel
      clear hc hcl hbel
      simp only [mC] at k0 k1 k2
      go_wp2_with fail
      go_region_held3 (fun w' => w'.cell? ⟨b, o + j * 3, none⟩ = some (.string (mText (k + 3 * (j : Int)))))
        (first | go_keep | exact cell_below hb1 k0 (lt_of_cell k0))
        (first | (go_at_call 11; refine HM.out.mono ?_; rintro e w1 ⟨rfl, hb1⟩))
      have hk : Below wr.heap.size wr.drew w1 := hb1
      have p1 := cell_below hk k1 (lt_of_cell k1)
      have p2 := cell_below hk k2 (lt_of_cell k2)
      have HB1 := Lib.hid (HB.out.drew.trans (hb1.mono HB.out.size))
      clear hk hb1 k0 k1 k2
      go_wp2_with fail
      go_roundw
      case rel => exact ⟨j + 1, by omega, by go_num, by go_num, HB1.out⟩
      case measure => simp [intOf]; omega
    · obtain rfl : j = n := by omega
      go_wp2_with fail
      go_ret
      exact ⟨rfl, hbel⟩

end Go.Proofs.Ytoofnicpjgmneaa
