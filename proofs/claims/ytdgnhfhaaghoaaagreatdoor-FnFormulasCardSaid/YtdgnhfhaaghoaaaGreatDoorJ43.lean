/- Formulas read: what the two readers gather from a formula's text is the formula. No program is in sight but for the words of XFTextL. -/
import Derived.Test.YtdgnhfhaaghoaaaGreatDoorJ42
set_option linter.unusedSimpArgs false
set_option linter.unusedVariables false
namespace Go.Proofs.YtdgnhfhaaghoaaaGreatDoor
open Go.RowKit

/-- What a letter stands for. -/
def letter (b : UInt8) : Option Int :=
  if b == 116 then some 0 else if b == 109 then some 1 else if b == 33 then some 2 else if b == 38 then some 3 else if b == 60 then some 4
  else if decide (48 ≤ b.toNat) && decide (b.toNat ≤ 57) then some ((b.toNat : Int) - 48) else none
def readI (l : List UInt8) : List Int := l.filterMap letter

theorem readI_app (a b : List UInt8) : readI (a ++ b) = readI a ++ readI b := by simp [readI]

theorem letter_dig (d : Int) (h0 : 0 ≤ d) (h1 : d ≤ 7) : letter (UInt8.ofNat (48 + d.toNat)) = some d := by
  rcases (show d = 0 ∨ d = 1 ∨ d = 2 ∨ d = 3 ∨ d = 4 ∨ d = 5 ∨ d = 6 ∨ d = 7 by omega) with rfl | rfl | rfl | rfl | rfl | rfl | rfl | rfl <;> decide

theorem app_list (a b : ByteArray) : (a ++ b).data.toList = a.data.toList ++ b.data.toList := by simp

/-- The bit of f from p to q. -/
def bit (f : List Int) (p q : Int) : List Int := (f.drop p.toNat).take (q.toNat - p.toNat)

theorem bit_one (f : List Int) (k : Nat) (h : k < f.length) : bit f k (k + 1) = [f.getD k 0] := by
  unfold bit
  rw [show ((k : Int) + 1).toNat - (k : Int).toNat = 1 by omega, Int.toNat_natCast, List.drop_eq_getElem_cons h, List.take_succ_cons, List.take_zero]
  simp [List.getD, h]
theorem bit_app (f : List Int) (p q r : Int) (hp : 0 ≤ p) (h1 : p ≤ q) (h2 : q ≤ r) : bit f p r = bit f p q ++ bit f q r := by
  unfold bit
  have e : r.toNat - p.toNat = (q.toNat - p.toNat) + (r.toNat - q.toNat) := by omega
  rw [e, List.take_add, List.drop_drop]
  congr 3
  omega
theorem bit_two (f : List Int) (k : Nat) (h : k + 1 < f.length) : bit f k (k + 2) = [f.getD k 0, f.getD (k + 1) 0] := by
  rw [bit_app f k (k + 1) (k + 2) (by omega) (by omega) (by omega), bit_one f k (by omega)]
  have := bit_one f (k + 1) h
  rw [show (((k + 1 : Nat)) : Int) = (k : Int) + 1 by omega, show (k : Int) + 1 + 1 = (k : Int) + 2 by omega] at this
  rw [this]
  rfl

theorem dig_list (d : Int) : (dig d).data.toList = [UInt8.ofNat (48 + d.toNat)] := rfl

/-- A text of a formula at p, in lists: one step. -/
theorem fText_cases {n : Nat} {f : List Int} {p : Int} (h : 0 ≤ fEnd (n + 1) f p) :
    ((fText (n + 1) f p).1.data.toList = [116] ∧ bit f p (fEnd (n + 1) f p) = [0]) ∨
    (∃ d, 0 ≤ d ∧ d ≤ 7 ∧ (fText (n + 1) f p).1.data.toList = [109, UInt8.ofNat (48 + d.toNat)] ∧ bit f p (fEnd (n + 1) f p) = [1, d]) ∨
    (fEnd (n + 1) f p = fEnd n f (p + 1) ∧ 0 ≤ fEnd n f (p + 1) ∧ (fText (n + 1) f p).1.data.toList = 33 :: (fText n f (p + 1)).1.data.toList ∧ bit f p (fEnd (n + 1) f p) = 2 :: bit f (p + 1) (fEnd n f (p + 1))) ∨
    (fEnd (n + 1) f p = fEnd n f (fEnd n f (p + 1)) ∧ 0 ≤ fEnd n f (p + 1) ∧ 0 ≤ fEnd n f (fEnd n f (p + 1)) ∧ (fText (n + 1) f p).1.data.toList = 38 :: ((fText n f (p + 1)).1.data.toList ++ (fText n f (fEnd n f (p + 1))).1.data.toList) ∧
      bit f p (fEnd (n + 1) f p) = 3 :: (bit f (p + 1) (fEnd n f (p + 1)) ++ bit f (fEnd n f (p + 1)) (fEnd n f (fEnd n f (p + 1))))) ∨
    (∃ d, 0 ≤ d ∧ d ≤ 7 ∧ fEnd (n + 1) f p = fEnd n f (p + 2) ∧ 0 ≤ fEnd n f (p + 2) ∧ (fText (n + 1) f p).1.data.toList = 60 :: UInt8.ofNat (48 + d.toNat) :: 62 :: (fText n f (p + 2)).1.data.toList ∧ bit f p (fEnd (n + 1) f p) = 4 :: d :: bit f (p + 2) (fEnd n f (p + 2))) := by
  have hp := fEnd_p0 h
  obtain ⟨k, rfl⟩ := Int.eq_ofNat_of_zero_le hp.1
  have hk : k < f.length := by omega
  have e1 : ((k : Int) + 1).toNat = k + 1 := by omega
  have hone := bit_one f k hk
  rw [fText, Int.toNat_natCast, e1]
  rcases fEnd_step h with ⟨h0, h1⟩ | ⟨h0, hk1, ha, hb, h1⟩ | ⟨h0, h1⟩ | ⟨h0, ha, h1⟩ | ⟨h0, hk1, ha, hb, h1⟩
  · left
    rw [h1, h0, hone, h0]
    exact ⟨rfl, rfl⟩
  · right; left
    have htwo := bit_two f k hk1
    refine ⟨_, ha, hb, ?_, by rw [h1, htwo, h0]⟩
    rw [h0]
    simp only [show ((1 : Int) == 0) = false from rfl, show ((1 : Int) == 1) = true from rfl, Bool.false_eq_true, if_false, if_true]
    rw [app_list, dig_list]
    rfl
  · right; right; left
    rw [h1] at h
    have hq := fEnd_pos h
    refine ⟨h1, h, ?_, ?_⟩
    · rw [h0]
      simp only [show ((2 : Int) == 0) = false from rfl, show ((2 : Int) == 1) = false from rfl, show ((2 : Int) == 2) = true from rfl, Bool.false_eq_true, if_false, if_true]
      rw [app_list]
      rfl
    · rw [h1, bit_app f k (k + 1) _ (by omega) (by omega) (by omega), hone, h0]
      rfl
  · right; right; right; left
    rw [h1] at h
    have hq := fEnd_pos ha
    have hr := fEnd_pos h
    have i1 := (fText_end n f _ ha).1
    refine ⟨h1, ha, h, ?_, ?_⟩
    · rw [h0]
      simp only [show ((3 : Int) == 0) = false from rfl, show ((3 : Int) == 1) = false from rfl, show ((3 : Int) == 2) = false from rfl, show ((3 : Int) == 3) = true from rfl, Bool.false_eq_true, if_false, if_true]
      rw [i1, app_list, app_list]
      rfl
    · rw [h1, bit_app f k (k + 1) _ (by omega) (by omega) (by omega), hone, h0, bit_app f (k + 1) (fEnd n f (k + 1)) _ (by omega) (by omega) (by omega)]
      rfl
  · right; right; right; right
    rw [h1] at h
    have hq := fEnd_pos h
    have htwo := bit_two f k hk1
    refine ⟨_, ha, hb, h1, h, ?_, ?_⟩
    · rw [h0]
      simp only [show ((4 : Int) == 0) = false from rfl, show ((4 : Int) == 1) = false from rfl, show ((4 : Int) == 2) = false from rfl, show ((4 : Int) == 3) = false from rfl, Bool.false_eq_true, if_false]
      rw [app_list, app_list, app_list, dig_list]
      rfl
    · rw [h1, bit_app f k (k + 2) _ (by omega) (by omega) (by omega), htwo, h0]
      rfl

theorem readI_text (n : Nat) (f : List Int) : ∀ p, 0 ≤ fEnd n f p → readI (fText n f p).1.data.toList = bit f p (fEnd n f p) := by
  induction n with
  | zero => intro p h; simp [fEnd] at h
  | succ n ih =>
    intro p h
    have L1 : letter 116 = some 0 := by decide
    have L2 : letter 109 = some 1 := by decide
    have L3 : letter 33 = some 2 := by decide
    have L4 : letter 38 = some 3 := by decide
    have L5 : letter 60 = some 4 := by decide
    have L6 : letter 62 = none := by decide
    rcases fText_cases h with ⟨e1, e2⟩ | ⟨d, a, b, e1, e2⟩ | ⟨q, a, e1, e2⟩ | ⟨q, a, b, e1, e2⟩ | ⟨d, a, b, q, c, e1, e2⟩ <;> rw [e1, e2]
    · simp [readI, L1]
    · have ld := letter_dig d a b
      generalize UInt8.ofNat (48 + d.toNat) = c at *
      simp [readI, L2, ld]
    · have := ih _ a
      simp [readI, L3] at this ⊢
      exact this
    · have h1 := ih _ a
      have h2 := ih _ b
      simp [readI, L4] at h1 h2 ⊢
      rw [h1, h2]
    · have h1 := ih _ c
      have ld := letter_dig d a b
      generalize UInt8.ofNat (48 + d.toNat) = c at *
      simp [readI, L5, L6, ld] at h1 ⊢
      exact h1

/-- One token of the reference's reader, and what is left. -/
def tok : List UInt8 → List Int × List UInt8
  | [] => ([-1], [])
  | c :: r =>
    if c == 116 then ([0], r)
    else if c == 33 then ([2], r)
    else if c == 38 then ([3], r)
    else if c == 109 then (match r with | d :: r' => ([1, (d.toNat : Int) - 48], r') | [] => ([-1], r))
    else if c == 60 then (match r with | d :: e :: r' => if e == 62 then ([4, (d.toNat : Int) - 48], r') else ([-1], r) | _ => ([-1], r))
    else ([-1], r)

theorem tok_less (c : UInt8) (r : List UInt8) : (tok (c :: r)).2.length ≤ r.length := by
  rcases r with _ | ⟨d, _ | ⟨e, r'⟩⟩ <;> simp only [tok] <;> (repeat' split) <;> first | (simp; done) | (simp; omega)

/-- The reference's loop. -/
def toks : Nat → List UInt8 → List Int → List Int
  | 0, _, acc => acc
  | n + 1, l, acc => if l.isEmpty || decide (200 < acc.length) then acc else toks n (tok l).2 (acc ++ (tok l).1)

theorem toks_nil (n : Nat) (acc : List Int) : toks n [] acc = acc := by cases n <;> simp [toks]

theorem dig_nat (d : Int) (h0 : 0 ≤ d) (h1 : d ≤ 7) : ((UInt8.ofNat (48 + d.toNat)).toNat : Int) - 48 = d := by
  rcases (show d = 0 ∨ d = 1 ∨ d = 2 ∨ d = 3 ∨ d = 4 ∨ d = 5 ∨ d = 6 ∨ d = 7 by omega) with rfl | rfl | rfl | rfl | rfl | rfl | rfl | rfl <;> decide

theorem toks_text (n : Nat) (f : List Int) : ∀ p, 0 ≤ fEnd n f p → ∀ (m : Nat) (rest : List UInt8) (acc : List Int), (acc.length : Int) + (fEnd n f p - p) ≤ 200 → (fText n f p).1.data.toList.length + rest.length ≤ m →
    ∃ m', rest.length ≤ m' ∧ toks m ((fText n f p).1.data.toList ++ rest) acc = toks m' rest (acc ++ bit f p (fEnd n f p)) := by
  induction n with
  | zero => intro p h; simp [fEnd] at h
  | succ n ih =>
    intro p h m rest acc hacc hm
    have hpos := fEnd_pos h
    have hstep : ∀ (l : List UInt8), l ≠ [] → ∀ m0, toks (m0 + 1) l acc = toks m0 (tok l).2 (acc ++ (tok l).1) := fun l hl m0 => by
      rw [toks]
      have h1 : l.isEmpty = false := by simpa using hl
      have h2 : decide (200 < acc.length) = false := by simp; omega
      rw [h1, h2]
      rfl
    rcases fText_cases h with ⟨e1, e2⟩ | ⟨d, a, b, e1, e2⟩ | ⟨q, a, e1, e2⟩ | ⟨q, a, b, e1, e2⟩ | ⟨d, a, b, q, c, e1, e2⟩ <;> rw [e1] at hm ⊢ <;> rw [e2]
    · obtain ⟨m0, rfl⟩ : ∃ m0, m = m0 + 1 := ⟨m - 1, by simp at hm; omega⟩
      rw [hstep _ (by simp)]
      exact ⟨m0, by simp at hm; omega, rfl⟩
    · obtain ⟨m0, rfl⟩ : ∃ m0, m = m0 + 1 := ⟨m - 1, by simp at hm; omega⟩
      rw [hstep _ (by simp)]
      refine ⟨m0, by simp at hm; omega, ?_⟩
      show toks m0 rest (acc ++ [1, ((UInt8.ofNat (48 + d.toNat)).toNat : Int) - 48]) = _
      rw [dig_nat d a b]
    · obtain ⟨m0, rfl⟩ : ∃ m0, m = m0 + 1 := ⟨m - 1, by simp at hm; omega⟩
      rw [hstep _ (by simp)]
      show ∃ m', _ ∧ toks m0 ((fText n f (p + 1)).1.data.toList ++ rest) (acc ++ [2]) = _
      rw [q] at hacc
      obtain ⟨m', h1, h2⟩ := ih (p + 1) a m0 rest (acc ++ [2]) (by simp; omega) (by simp at hm ⊢; omega)
      exact ⟨m', h1, by rw [h2]; simp⟩
    · obtain ⟨m0, rfl⟩ : ∃ m0, m = m0 + 1 := ⟨m - 1, by simp at hm; omega⟩
      rw [hstep _ (by simp)]
      rw [q] at hacc
      have p1 := fEnd_pos a
      have p2 := fEnd_pos b
      have e3 : ∀ (x y : List UInt8), (38 :: (x ++ y)) ++ rest = 38 :: (x ++ (y ++ rest)) := fun x y => by simp
      rw [e3]
      show ∃ m', _ ∧ toks m0 ((fText n f (p + 1)).1.data.toList ++ ((fText n f (fEnd n f (p + 1))).1.data.toList ++ rest)) (acc ++ [3]) = _
      obtain ⟨m1, h1, h2⟩ := ih (p + 1) a m0 ((fText n f (fEnd n f (p + 1))).1.data.toList ++ rest) (acc ++ [3]) (by simp; omega) (by simp at hm ⊢; omega)
      have hbl : ((bit f (p + 1) (fEnd n f (p + 1))).length : Int) ≤ fEnd n f (p + 1) - (p + 1) := by
        unfold bit
        have := fEnd_p0 h
        rw [List.length_take, List.length_drop]
        omega
      obtain ⟨m', h3, h4⟩ := ih _ b m1 rest (acc ++ [3] ++ bit f (p + 1) (fEnd n f (p + 1))) (by simp; omega) (by simpa using h1)
      exact ⟨m', h3, by rw [h2, h4]; simp⟩
    · obtain ⟨m0, rfl⟩ : ∃ m0, m = m0 + 1 := ⟨m - 1, by simp at hm; omega⟩
      rw [hstep _ (by simp)]
      rw [q] at hacc
      show ∃ m', _ ∧ toks m0 ((fText n f (p + 2)).1.data.toList ++ rest) (acc ++ [4, ((UInt8.ofNat (48 + d.toNat)).toNat : Int) - 48]) = _
      rw [dig_nat d a b]
      obtain ⟨m', h1, h2⟩ := ih (p + 2) c m0 rest (acc ++ [4, d]) (by simp; omega) (by simp at hm ⊢; omega)
      exact ⟨m', h1, by rw [h2]; simp⟩

theorem bit_all (f : List Int) : bit f 0 (f.length : Int) = f := by
  unfold bit
  simp

theorem isF_full {f : List Int} (h : isF f = true) : fEnd f.length f 0 = (f.length : Int) := by
  unfold isF at h
  simp only [Bool.and_eq_true, beq_iff_eq] at h
  exact h.2

theorem fT_eq {f : List Int} (h : isF f = true) : fT f = (fText f.length f 0).1 := by unfold fT; rw [if_pos h]

/-- What program and reference gather, and what they answer. -/
def gotI (s : ByteArray) : List Int := readI s.data.toList
def gotT (s : ByteArray) : List Int := toks s.size s.data.toList []
def okP (f : List Int) (s : ByteArray) : Bool := isF f && ((fT f).toList == s.toList)
def pfI (s : ByteArray) : List Int := if okP (gotI s) s then gotI s else []
def pfT (s : ByteArray) : List Int := if okP (gotT s) s then gotT s else []

theorem toList_inj {a b : ByteArray} (h : (a.toList == b.toList) = true) : a = b := by
  by_cases e : a = b
  · exact e
  · rw [str_ne e] at h
    cases h

theorem okP_got {f : List Int} {s : ByteArray} (h : okP f s = true) : gotI s = f ∧ gotT s = f ∧ s.size ≤ 400 := by
  unfold okP at h
  simp only [Bool.and_eq_true] at h
  obtain ⟨hf, hs⟩ := h
  have e := toList_inj hs
  have h0 := isF_end hf
  have hfull := isF_full hf
  rw [fT_eq hf] at e
  subst e
  have hsz : (fText f.length f 0).1.data.toList.length = (fText f.length f 0).1.size := by simp
  refine ⟨?_, ?_, ?_⟩
  · unfold gotI
    rw [readI_text _ _ _ h0.1, hfull, bit_all]
  · unfold gotT
    obtain ⟨m', _, h2⟩ := toks_text f.length f 0 h0.1 (fText f.length f 0).1.size [] [] (by simp; omega) (by simp)
    rw [List.append_nil] at h2
    rw [h2, toks_nil, List.nil_append, hfull, bit_all]
  · have := (fText_end f.length f 0 h0.1).2
    omega

theorem pf_same (s : ByteArray) : pfT s = pfI s ∧ okP (gotT s) s = okP (gotI s) s := by
  unfold pfT pfI
  cases h1 : okP (gotI s) s
  · cases h2 : okP (gotT s) s
    · exact ⟨rfl, rfl⟩
    · have := okP_got h2
      rw [this.1] at h1
      rw [this.2.1] at h2
      rw [h1] at h2
      cases h2
  · have e := (okP_got h1).2.1
    rw [e, h1]
    exact ⟨rfl, rfl⟩

theorem long_no {s : ByteArray} (h : 400 < s.size) : okP (gotI s) s = false := by
  cases h1 : okP (gotI s) s
  · rfl
  · have := (okP_got h1).2.2
    omega

end Go.Proofs.YtdgnhfhaaghoaaaGreatDoor
