/- Checksums. Plain law: another byte at one place of a sealed text is found out. No program is in sight. -/
import Derived.Test.YtbobohfhplfpgaaDoorBase
set_option linter.unusedVariables false
namespace Go.Proofs.YtbobohfhplfpgaaDoor

def csStep (h : Nat) (b : UInt8) : Nat := (41 * h + b.toNat + 1) % 999979
def csum (l : List UInt8) : Nat := l.foldl csStep 7
theorem cs_lt (h : Nat) (b : UInt8) : csStep h b < 999979 := Nat.mod_lt _ (by omega)
theorem cs_fold_lt : ∀ (l : List UInt8) (h : Nat), h < 999979 → l.foldl csStep h < 999979
  | [], h, hh => hh
  | b :: l, h, _ => cs_fold_lt l _ (cs_lt h b)
theorem csum_lt (l : List UInt8) : csum l < 999979 := cs_fold_lt l 7 (by omega)
theorem cs_inj {h k : Nat} {b : UInt8} (hh : h < 999979) (hk : k < 999979) (e : csStep h b = csStep k b) : h = k := by
  unfold csStep at e
  omega
theorem cs_byte {h : Nat} {a b : UInt8} (e : csStep h a = csStep h b) : a = b := by
  have ha := a.toNat_lt
  have hb := b.toNat_lt
  unfold csStep at e
  have : a.toNat = b.toNat := by omega
  exact UInt8.toNat_inj.1 this
theorem cs_fold_inj : ∀ (l : List UInt8) {h k : Nat}, h < 999979 → k < 999979 → l.foldl csStep h = l.foldl csStep k → h = k
  | [], h, k, _, _, e => e
  | b :: l, h, k, hh, hk, e => cs_inj hh hk (cs_fold_inj l (cs_lt h b) (cs_lt k b) e)
theorem csum_set {x : List UInt8} {k : Nat} {a c : UInt8} (hx : x[k]? = some a) (e : csum (x.set k c) = csum x) : c = a := by
  obtain ⟨hk, hxk⟩ := List.getElem?_eq_some_iff.1 hx
  have h1 : x = x.take k ++ a :: x.drop (k + 1) := by
    rw [← hxk, List.getElem_cons_drop, List.take_append_drop]
  have h2 : x.set k c = x.take k ++ c :: x.drop (k + 1) := by rw [List.set_eq_take_append_cons_drop, if_pos hk]
  unfold csum at e
  rw [h2] at e
  conv at e => rhs; rw [h1]
  rw [List.foldl_append, List.foldl_append, List.foldl_cons, List.foldl_cons] at e
  exact cs_byte (cs_fold_inj _ (cs_lt _ _) (cs_lt _ _) e)

/-- A way to write numbers in which no sign 35 stands. -/
structure CsText (d : Nat → List UInt8) : Prop where
  inj : ∀ a b, d a = d b → a = b
  plain : ∀ a, (35 : UInt8) ∉ d a

def sealT (d : Nat → List UInt8) (x : List UInt8) : List UInt8 := x ++ 35 :: d (csum x)
def cutAt (y : List UInt8) : List UInt8 := y.takeWhile fun b => !(b == 35)

theorem cut_append {x r : List UInt8} (h : (35 : UInt8) ∉ x) : cutAt (x ++ 35 :: r) = x := by
  unfold cutAt
  induction x with
  | nil => simp
  | cons a x ih =>
    have ha : a ≠ 35 := fun e => h (by simp [e])
    rw [List.cons_append, List.takeWhile_cons, if_pos (by simpa using ha), ih fun e => h (by simp [e])]
theorem cut_all {x : List UInt8} (h : (35 : UInt8) ∉ x) : cutAt x = x := by
  unfold cutAt
  induction x with
  | nil => rfl
  | cons a x ih =>
    have ha : a ≠ 35 := fun e => h (by simp [e])
    rw [List.takeWhile_cons, if_pos (by simpa using ha), ih fun e => h (by simp [e])]
theorem cut_no (y : List UInt8) : (35 : UInt8) ∉ cutAt y := by
  intro h
  unfold cutAt at h
  have := List.all_takeWhile (p := fun b : UInt8 => !(b == 35)) (l := y)
  rw [List.all_eq_true] at this
  have := this 35 h
  simp at this
theorem cut_sealT {d : Nat → List UInt8} {x : List UInt8} (h : (35 : UInt8) ∉ x) : cutAt (sealT d x) = x := cut_append h

/-- A sealed text with another byte at one place is no sealed text. -/
theorem sealT_changed {d : Nat → List UInt8} (hd : CsText d) {x : List UInt8} (hx : (35 : UInt8) ∉ x) {k : Nat} {a c : UInt8} (hk : (sealT d x)[k]? = some a) (hc : c ≠ a) : sealT d (cutAt ((sealT d x).set k c)) ≠ (sealT d x).set k c := by
  intro e
  have hkl := (List.getElem?_eq_some_iff.1 hk).1
  rcases Nat.lt_trichotomy k x.length with h | h | h
  · have hxk : x[k]? = some a := by
      unfold sealT at hk
      rw [List.getElem?_append_left h] at hk
      exact hk
    have hset : (sealT d x).set k c = x.set k c ++ 35 :: d (csum x) := by
      unfold sealT
      rw [List.set_append_left _ _ h]
    rw [hset] at e
    by_cases h35 : c = 35
    · subst h35
      have h2 : x.set k 35 = x.take k ++ 35 :: x.drop (k + 1) := by rw [List.set_eq_take_append_cons_drop, if_pos h]
      have hno : (35 : UInt8) ∉ x.take k := fun hm => hx (List.mem_of_mem_take hm)
      rw [h2, List.append_assoc, List.cons_append, cut_append hno] at e
      unfold sealT at e
      have e := List.append_cancel_left e
      rw [List.cons.injEq] at e
      apply hd.plain (csum (x.take k))
      rw [e.2]
      simp
    · have hno : (35 : UInt8) ∉ x.set k c := by
        intro hm
        rcases List.mem_or_eq_of_mem_set hm with h1 | h1
        · exact hx h1
        · exact h35 h1.symm
      rw [cut_append hno] at e
      unfold sealT at e
      have e := List.append_cancel_left e
      rw [List.cons.injEq] at e
      exact hc (csum_set hxk (hd.inj _ _ e.2))
  · subst h
    have ha : a = 35 := by
      unfold sealT at hk
      rw [List.getElem?_append_right (Nat.le_refl _), Nat.sub_self] at hk
      simpa using hk.symm
    have hset : (sealT d x).set x.length c = x ++ c :: d (csum x) := by
      unfold sealT
      rw [List.set_append_right _ _ (Nat.le_refl _), Nat.sub_self]
      rfl
    rw [hset] at e
    have hno : (35 : UInt8) ∉ x ++ c :: d (csum x) := by
      intro hm
      rw [List.mem_append, List.mem_cons] at hm
      rcases hm with h1 | h1 | h1
      · exact hx h1
      · exact hc (h1.symm.trans ha.symm)
      · exact hd.plain _ h1
    apply hno
    rw [← e]
    unfold sealT
    simp
  · have hset : (sealT d x).set k c = x ++ 35 :: (d (csum x)).set (k - x.length - 1) c := by
      unfold sealT
      rw [List.set_append_right _ _ (by omega)]
      congr 1
      obtain ⟨m, hm⟩ : ∃ m, k - x.length = m + 1 := ⟨k - x.length - 1, by omega⟩
      rw [hm]
      rfl
    rw [hset, cut_append hx] at e
    unfold sealT at e
    have e := List.append_cancel_left e
    rw [List.cons.injEq] at e
    have hdk : (d (csum x))[k - x.length - 1]? = some a := by
      unfold sealT at hk
      rw [List.getElem?_append_right (by omega)] at hk
      obtain ⟨m, hm⟩ : ∃ m, k - x.length = m + 1 := ⟨k - x.length - 1, by omega⟩
      rw [hm] at hk ⊢
      simpa using hk
    have : (d (csum x))[k - x.length - 1]? = ((d (csum x)).set (k - x.length - 1) c)[k - x.length - 1]? := by rw [← e.2]
    rw [hdk, List.getElem?_set_self (List.getElem?_eq_some_iff.1 hdk).1] at this
    injection this with this
    exact hc this.symm

end Go.Proofs.YtbobohfhplfpgaaDoor
