/- Formulas written: program and reference walked; the law that they agree. -/
import Derived.Test.YtfbcepdcdoiieaaDoorProg
import Derived.Test.YtfbcepdcdoiieaaDoorFormA
import Derived.Test.YtfbcepdcdoiieaaDoorFormB
import Derived.Test.YtfbcepdcdoiieaaDoorShelfF
set_option linter.unusedVariables false
namespace Go.Proofs.YtfbcepdcdoiieaaDoor
open Go.RowKit

def dig (x : Int) : ByteArray := ⟨#[UInt8.ofNat (48 + x.toNat)]⟩
theorem dig_size (x : Int) : (dig x).size = 1 := rfl

set_option maxHeartbeats 400000 in
theorem dec_any (x : Int) (w : World) (h0 : 0 ≤ x) (h1 : x ≤ 7) :
    Calls Tryd.prog 23 #[.int .i64 x] w fun e w' => e = .returned (.string (dig x)) ∧ w = w' := by
  obtain ⟨m, rfl⟩ := Int.eq_ofNat_of_zero_le h0
  have H := Lib.hid (Any.strconv_Itoa_small Tryd.lays171 m (by omega) w)
  have e : Lib.decDigits m = [UInt8.ofNat (48 + m)] := by rw [Lib.decDigits, dif_pos (by omega)]
  rw [e] at H
  go_enter Tryd.func23, Tryd.ntmps23
  go_wp2_with fail
  refine H.out.mono ?_
  rintro e w1 ⟨rfl, rfl⟩
  go_wp2_with fail
  go_ret
  exact ⟨by show Ending.returned (Value.string ⟨#[48 + UInt8.ofNat m]⟩) = _; simp [dig], rfl⟩

set_option maxHeartbeats 1000000 in
theorem l1Num_any (x : Int) (w : World) (h0 : 0 ≤ x) (h1 : x ≤ 7) :
    Calls Tryd.prog 20 #[.int .i64 x] w fun e w' => e = .returned (.string (dig x)) ∧ w = w' := by
  rcases (show x = 0 ∨ x = 1 ∨ x = 2 ∨ x = 3 ∨ x = 4 ∨ x = 5 ∨ x = 6 ∨ x = 7 by omega) with rfl | rfl | rfl | rfl | rfl | rfl | rfl | rfl
  all_goals
    go_enter Tryd.func20, Tryd.ntmps20
    go_wp2_with fail
    go_ret
    exact ⟨rfl, rfl⟩

/-- The text of the formula at a place, and the place behind it. -/
def fText : Nat → List Int → Int → ByteArray × Int
  | 0, _, _ => (⟨#[]⟩, 0)
  | n + 1, f, p =>
    if f.getD p.toNat 0 == 0 then (⟨#[116]⟩, p + 1)
    else if f.getD p.toNat 0 == 1 then ((⟨#[109]⟩ : ByteArray) ++ dig (f.getD (p + 1).toNat 0), p + 2)
    else if f.getD p.toNat 0 == 2 then ((⟨#[33]⟩ : ByteArray) ++ (fText n f (p + 1)).1, (fText n f (p + 1)).2)
    else if f.getD p.toNat 0 == 3 then ((⟨#[38]⟩ : ByteArray) ++ (fText n f (p + 1)).1 ++ (fText n f (fText n f (p + 1)).2).1, (fText n f (fText n f (p + 1)).2).2)
    else ((⟨#[60]⟩ : ByteArray) ++ dig (f.getD (p + 1).toNat 0) ++ ⟨#[62]⟩ ++ (fText n f (p + 2)).1, (fText n f (p + 2)).2)

theorem fEnd_pos {n : Nat} {f : List Int} {p : Int} (h : 0 ≤ fEnd n f p) : p < fEnd n f p ∧ fEnd n f p ≤ f.length := by
  rcases fEnd_bd n f p with h' | h'
  · omega
  · exact h'
theorem fEnd_p0 {n : Nat} {f : List Int} {p : Int} (h : 0 ≤ fEnd n f p) : 0 ≤ p ∧ p < f.length := by
  cases n with
  | zero => simp [fEnd] at h
  | succ n =>
    unfold fEnd at h
    split at h
    · omega
    · omega

/-- What a well-formed formula at k looks like, one step. -/
theorem fEnd_step {n : Nat} {f : List Int} {k : Nat} (h : 0 ≤ fEnd (n + 1) f k) :
    (f.getD k 0 = 0 ∧ fEnd (n + 1) f k = k + 1) ∨
    (f.getD k 0 = 1 ∧ k + 1 < f.length ∧ 0 ≤ f.getD (k + 1) 0 ∧ f.getD (k + 1) 0 ≤ 7 ∧ fEnd (n + 1) f k = k + 2) ∨
    (f.getD k 0 = 2 ∧ fEnd (n + 1) f k = fEnd n f (k + 1)) ∨
    (f.getD k 0 = 3 ∧ 0 ≤ fEnd n f (k + 1) ∧ fEnd (n + 1) f k = fEnd n f (fEnd n f (k + 1))) ∨
    (f.getD k 0 = 4 ∧ k + 1 < f.length ∧ 0 ≤ f.getD (k + 1) 0 ∧ f.getD (k + 1) 0 ≤ 7 ∧ fEnd (n + 1) f k = fEnd n f (k + 2)) := by
  have hk := fEnd_p0 h
  have e := fEnd_eq n f k (by omega)
  rw [e] at h ⊢
  split at h
  · rename_i hx
    rw [if_pos hx]
    exact .inl ⟨by simpa using hx, rfl⟩
  · rename_i hx
    rw [if_neg hx]
    split at h
    · rename_i hy
      rw [if_pos hy]
      split at h
      · rename_i hz
        rw [if_pos hz]
        simp only [Bool.and_eq_true, decide_eq_true_eq] at hz
        have := inB_true hz.2
        exact .inr (.inl ⟨by simpa using hy, by omega, this.1, this.2, rfl⟩)
      · omega
    · rename_i hy
      rw [if_neg hy]
      split at h
      · rename_i hz
        rw [if_pos hz]
        exact .inr (.inr (.inl ⟨by simpa using hz, rfl⟩))
      · rename_i hz
        rw [if_neg hz]
        split at h
        · rename_i hu
          rw [if_pos hu]
          have h' := fEnd_p0 h
          exact .inr (.inr (.inr (.inl ⟨by simpa using hu, h'.1, rfl⟩)))
        · rename_i hu
          rw [if_neg hu]
          split at h
          · rename_i hv
            rw [if_pos hv]
            split at h
            · rename_i hw
              rw [if_pos hw]
              simp only [Bool.and_eq_true, decide_eq_true_eq] at hw
              have := inB_true hw.2
              exact .inr (.inr (.inr (.inr ⟨by simpa using hv, by omega, this.1, this.2, rfl⟩)))
            · omega
          · omega

theorem fText_end (n : Nat) (f : List Int) : ∀ p, 0 ≤ fEnd n f p → (fText n f p).2 = fEnd n f p ∧ (((fText n f p).1.size : Int) ≤ 2 * (fEnd n f p - p)) := by
  induction n with
  | zero => intro p h; simp [fEnd] at h
  | succ n ih =>
    intro p h
    have hp := fEnd_p0 h
    obtain ⟨k, rfl⟩ := Int.eq_ofNat_of_zero_le hp.1
    have e1 : ((k : Int) + 1).toNat = k + 1 := by omega
    unfold fText
    rw [Int.toNat_natCast, e1]
    rcases fEnd_step h with ⟨h0, h1⟩ | ⟨h0, hk, ha, hb, h1⟩ | ⟨h0, h1⟩ | ⟨h0, ha, h1⟩ | ⟨h0, hk, ha, hb, h1⟩
    · rw [h1, h0]
      exact ⟨rfl, by show (1 : Int) ≤ _; omega⟩
    · rw [h1, h0]
      refine ⟨rfl, ?_⟩
      show ((((⟨#[109]⟩ : ByteArray) ++ dig _).size : Nat) : Int) ≤ _
      rw [ByteArray.size_append, dig_size]
      show ((1 + 1 : Nat) : Int) ≤ _
      omega
    · rw [h1] at h ⊢
      rw [h0]
      obtain ⟨i1, i2⟩ := ih _ h
      refine ⟨i1, ?_⟩
      show ((((⟨#[33]⟩ : ByteArray) ++ _).size : Nat) : Int) ≤ _
      rw [ByteArray.size_append]
      show ((1 + _ : Nat) : Int) ≤ _
      omega
    · rw [h1] at h ⊢
      rw [h0]
      obtain ⟨i1, i2⟩ := ih _ ha
      have ip := fEnd_pos ha
      simp only [show ((3 : Int) == 0) = false from rfl, show ((3 : Int) == 1) = false from rfl, show ((3 : Int) == 2) = false from rfl, show ((3 : Int) == 3) = true from rfl, Bool.false_eq_true, if_false, if_true]
      rw [i1]
      obtain ⟨j1, j2⟩ := ih _ h
      refine ⟨j1, ?_⟩
      rw [ByteArray.size_append, ByteArray.size_append]
      show ((1 + _ + _ : Nat) : Int) ≤ _
      omega
    · rw [h1] at h ⊢
      rw [h0]
      obtain ⟨i1, i2⟩ := ih _ h
      refine ⟨i1, ?_⟩
      simp only [show ((4 : Int) == 0) = false from rfl, show ((4 : Int) == 1) = false from rfl, show ((4 : Int) == 2) = false from rfl, show ((4 : Int) == 3) = false from rfl, Bool.false_eq_true, if_false]
      rw [ByteArray.size_append, ByteArray.size_append, ByteArray.size_append, dig_size]
      show ((1 + 1 + 1 + _ : Nat) : Int) ≤ _
      omega

set_option maxRecDepth 100000 in
set_option maxHeartbeats 2000000 in
theorem formulaText_any (A : Option Addr) (c : Nat) (f : List Int) (hf : f.length ≤ 200) (w : World) (hA : Cells w A (ints f)) :
    ∀ (n : Nat) (p : Int), 0 ≤ fEnd n f p →
    Calls Tryd.prog 16 #[.slice A f.length c, .int .i64 p] w fun e w' => e = .returned (.tuple #[.string (fText n f p).1, .int .i64 (fText n f p).2]) ∧ w = w' := by
  intro n
  induction n with
  | zero => intro p h; simp [fEnd] at h
  | succ n ih =>
    intro p h
    have hp := fEnd_p0 h
    obtain ⟨k, rfl⟩ := Int.eq_ofNat_of_zero_le hp.1
    have hk : k < f.length := by omega
    have e1 : ((k : Int) + 1).toNat = k + 1 := by omega
    obtain ⟨b, o, rfl, hc⟩ := hA.int hk
    have c0 := hc k hk
    rw [fText, Int.toNat_natCast, e1]
    rcases fEnd_step h with ⟨h0, h1⟩ | ⟨h0, hk1, ha, hb, h1⟩ | ⟨h0, h1⟩ | ⟨h0, ha, h1⟩ | ⟨h0, hk1, ha, hb, h1⟩
    · rw [h0] at c0 ⊢
      simp only [show ((0 : Int) == 0) = true from rfl, if_true]
      clear hc ih h1 hA h
      go_enter Tryd.func16, Tryd.ntmps16
      go_wp2_with fail
      go_ret2
      exact ⟨rfl, rfl⟩
    · rw [h0] at c0 ⊢
      have c1 := hc (k + 1) hk1
      simp only [show ((1 : Int) == 0) = false from rfl, show ((1 : Int) == 1) = true from rfl, Bool.false_eq_true, if_false, if_true]
      generalize f.getD (k + 1) 0 = d at *
      have hsz := dig_size d
      clear hc ih h1 hA h
      go_enter Tryd.func16, Tryd.ntmps16
      go_wp2_with ((with_reducible refine (dec_any d _ ha hb).mono ?_); rintro e w' ⟨rfl, rfl⟩)
      go_ret2
      exact ⟨rfl, rfl⟩
    · rw [h0] at c0 ⊢
      rw [h1] at h
      simp only [show ((2 : Int) == 0) = false from rfl, show ((2 : Int) == 1) = false from rfl, show ((2 : Int) == 2) = true from rfl, Bool.false_eq_true, if_false, if_true]
      have H := Lib.hid (ih _ h)
      have hsz := (fText_end n f _ h).2
      have hb1 := fEnd_pos h
      have hsz' : (fText n f ((k : Int) + 1)).1.size ≤ 400 := by omega
      generalize fText n f ((k : Int) + 1) = r at *
      clear hc ih h1 hA h hsz hb1
      go_enter Tryd.func16, Tryd.ntmps16
      go_wp2_with ((with_reducible refine H.out.mono ?_); rintro e w' ⟨rfl, rfl⟩)
      go_ret2
      exact ⟨rfl, rfl⟩
    · rw [h0] at c0 ⊢
      rw [h1] at h
      simp only [show ((3 : Int) == 0) = false from rfl, show ((3 : Int) == 1) = false from rfl, show ((3 : Int) == 2) = false from rfl, show ((3 : Int) == 3) = true from rfl, Bool.false_eq_true, if_false, if_true]
      have H := Lib.hid (ih _ ha)
      have i1 := (fText_end n f _ ha).1
      rw [← i1] at h
      have H2 := Lib.hid (ih _ h)
      have hsz := (fText_end n f _ ha).2
      have hb1 := fEnd_pos ha
      have hsz2 := (fText_end n f _ h).2
      have hb2 := fEnd_pos h
      have hsz' : (fText n f ((k : Int) + 1)).1.size ≤ 400 := by omega
      generalize fText n f ((k : Int) + 1) = r at *
      have hsz2' : (fText n f r.2).1.size ≤ 400 := by omega
      generalize fText n f r.2 = r2 at *
      have hsum : ((⟨#[38]⟩ : ByteArray) ++ r.1).size ≤ 500 := by rw [ByteArray.size_append]; show 1 + r.1.size ≤ 500; omega
      clear hc ih h1 hA h hsz hb1 ha i1 hsz2 hb2
      go_enter Tryd.func16, Tryd.ntmps16
      go_wp2_with (first | ((with_reducible refine H.out.mono ?_); rintro e w' ⟨rfl, rfl⟩) | ((with_reducible refine H2.out.mono ?_); rintro e w' ⟨rfl, rfl⟩))
      go_ret2
      exact ⟨rfl, rfl⟩
    · rw [h0] at c0 ⊢
      rw [h1] at h
      have c1 := hc (k + 1) hk1
      simp only [show ((4 : Int) == 0) = false from rfl, show ((4 : Int) == 1) = false from rfl, show ((4 : Int) == 2) = false from rfl, show ((4 : Int) == 3) = false from rfl, Bool.false_eq_true, if_false]
      have H := Lib.hid (ih _ h)
      have hsz := (fText_end n f _ h).2
      have hb1 := fEnd_pos h
      have hsz' : (fText n f ((k : Int) + 2)).1.size ≤ 400 := by omega
      generalize fText n f ((k : Int) + 2) = r at *
      generalize f.getD (k + 1) 0 = d at *
      have hds := dig_size d
      have hs1 : ((⟨#[60]⟩ : ByteArray) ++ dig d).size ≤ 500 := by rw [ByteArray.size_append, dig_size]; decide
      have hs2 : ((⟨#[60]⟩ : ByteArray) ++ dig d ++ ⟨#[62]⟩).size ≤ 500 := by rw [ByteArray.size_append, ByteArray.size_append, dig_size]; decide
      clear hc ih h1 hA h hsz hb1
      go_enter Tryd.func16, Tryd.ntmps16
      go_wp2_with (first | ((with_reducible refine H.out.mono ?_); rintro e w' ⟨rfl, rfl⟩) | ((with_reducible refine (dec_any d _ ha hb).mono ?_); rintro e w' ⟨rfl, rfl⟩))
      go_ret2
      exact ⟨rfl, rfl⟩

set_option maxRecDepth 100000 in
set_option maxHeartbeats 2000000 in
theorem l11Text_any (A : Option Addr) (c : Nat) (f : List Int) (hf : f.length ≤ 200) (w : World) (hA : Cells w A (ints f)) :
    ∀ (n : Nat) (p : Int), 0 ≤ fEnd n f p →
    Calls Tryd.prog 14 #[.slice A f.length c, .int .i64 p] w fun e w' => e = .returned (.tuple #[.string (fText n f p).1, .int .i64 (fText n f p).2]) ∧ w = w' := by
  intro n
  induction n with
  | zero => intro p h; simp [fEnd] at h
  | succ n ih =>
    intro p h
    have hp := fEnd_p0 h
    obtain ⟨k, rfl⟩ := Int.eq_ofNat_of_zero_le hp.1
    have hk : k < f.length := by omega
    have e1 : ((k : Int) + 1).toNat = k + 1 := by omega
    obtain ⟨b, o, rfl, hc⟩ := hA.int hk
    have c0 := hc k hk
    rw [fText, Int.toNat_natCast, e1]
    rcases fEnd_step h with ⟨h0, h1⟩ | ⟨h0, hk1, ha, hb, h1⟩ | ⟨h0, h1⟩ | ⟨h0, ha, h1⟩ | ⟨h0, hk1, ha, hb, h1⟩
    · rw [h0] at c0 ⊢
      simp only [show ((0 : Int) == 0) = true from rfl, if_true]
      clear hc ih h1 hA h
      go_enter Tryd.func14, Tryd.ntmps14
      go_wp2_with fail
      go_ret2
      exact ⟨rfl, rfl⟩
    · rw [h0] at c0 ⊢
      have c1 := hc (k + 1) hk1
      simp only [show ((1 : Int) == 0) = false from rfl, show ((1 : Int) == 1) = true from rfl, Bool.false_eq_true, if_false, if_true]
      generalize f.getD (k + 1) 0 = d at *
      have hsz := dig_size d
      clear hc ih h1 hA h
      go_enter Tryd.func14, Tryd.ntmps14
      go_wp2_with ((with_reducible refine (l1Num_any d _ ha hb).mono ?_); rintro e w' ⟨rfl, rfl⟩)
      go_ret2
      exact ⟨rfl, rfl⟩
    · rw [h0] at c0 ⊢
      rw [h1] at h
      simp only [show ((2 : Int) == 0) = false from rfl, show ((2 : Int) == 1) = false from rfl, show ((2 : Int) == 2) = true from rfl, Bool.false_eq_true, if_false, if_true]
      have H := Lib.hid (ih _ h)
      have hsz := (fText_end n f _ h).2
      have hb1 := fEnd_pos h
      have hsz' : (fText n f ((k : Int) + 1)).1.size ≤ 400 := by omega
      generalize fText n f ((k : Int) + 1) = r at *
      clear hc ih h1 hA h hsz hb1
      go_enter Tryd.func14, Tryd.ntmps14
      go_wp2_with ((with_reducible refine H.out.mono ?_); rintro e w' ⟨rfl, rfl⟩)
      go_ret2
      exact ⟨rfl, rfl⟩
    · rw [h0] at c0 ⊢
      rw [h1] at h
      simp only [show ((3 : Int) == 0) = false from rfl, show ((3 : Int) == 1) = false from rfl, show ((3 : Int) == 2) = false from rfl, show ((3 : Int) == 3) = true from rfl, Bool.false_eq_true, if_false, if_true]
      have H := Lib.hid (ih _ ha)
      have i1 := (fText_end n f _ ha).1
      rw [← i1] at h
      have H2 := Lib.hid (ih _ h)
      have hsz := (fText_end n f _ ha).2
      have hb1 := fEnd_pos ha
      have hsz2 := (fText_end n f _ h).2
      have hb2 := fEnd_pos h
      have hsz' : (fText n f ((k : Int) + 1)).1.size ≤ 400 := by omega
      generalize fText n f ((k : Int) + 1) = r at *
      have hsz2' : (fText n f r.2).1.size ≤ 400 := by omega
      generalize fText n f r.2 = r2 at *
      have hsum : ((⟨#[38]⟩ : ByteArray) ++ r.1).size ≤ 500 := by rw [ByteArray.size_append]; show 1 + r.1.size ≤ 500; omega
      clear hc ih h1 hA h hsz hb1 ha i1 hsz2 hb2
      go_enter Tryd.func14, Tryd.ntmps14
      go_wp2_with (first | ((with_reducible refine H.out.mono ?_); rintro e w' ⟨rfl, rfl⟩) | ((with_reducible refine H2.out.mono ?_); rintro e w' ⟨rfl, rfl⟩))
      go_ret2
      exact ⟨rfl, rfl⟩
    · rw [h0] at c0 ⊢
      rw [h1] at h
      have c1 := hc (k + 1) hk1
      simp only [show ((4 : Int) == 0) = false from rfl, show ((4 : Int) == 1) = false from rfl, show ((4 : Int) == 2) = false from rfl, show ((4 : Int) == 3) = false from rfl, Bool.false_eq_true, if_false]
      have H := Lib.hid (ih _ h)
      have hsz := (fText_end n f _ h).2
      have hb1 := fEnd_pos h
      have hsz' : (fText n f ((k : Int) + 2)).1.size ≤ 400 := by omega
      generalize fText n f ((k : Int) + 2) = r at *
      generalize f.getD (k + 1) 0 = d at *
      have hds := dig_size d
      have hs1 : ((⟨#[60]⟩ : ByteArray) ++ dig d).size ≤ 500 := by rw [ByteArray.size_append, dig_size]; decide
      have hs2 : ((⟨#[60]⟩ : ByteArray) ++ dig d ++ ⟨#[62]⟩).size ≤ 500 := by rw [ByteArray.size_append, ByteArray.size_append, dig_size]; decide
      clear hc ih h1 hA h hsz hb1
      go_enter Tryd.func14, Tryd.ntmps14
      go_wp2_with (first | ((with_reducible refine H.out.mono ?_); rintro e w' ⟨rfl, rfl⟩) | ((with_reducible refine (l1Num_any d _ ha hb).mono ?_); rintro e w' ⟨rfl, rfl⟩))
      go_ret2
      exact ⟨rfl, rfl⟩

end Go.Proofs.YtfbcepdcdoiieaaDoor
