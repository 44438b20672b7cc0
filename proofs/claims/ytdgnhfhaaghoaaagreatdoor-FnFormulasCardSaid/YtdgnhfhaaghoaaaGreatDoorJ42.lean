/- Formulas written: program and reference walked; the law that they agree. The law that program and reference agree on a formula's text, walked. -/
import Derived.Test.YtdgnhfhaaghoaaaGreatDoorProg
import Derived.Test.YtdgnhfhaaghoaaaGreatDoorJ11
import Derived.Test.YtdgnhfhaaghoaaaGreatDoorJ27
import Derived.Test.YtdgnhfhaaghoaaaGreatDoorJ21
set_option linter.unusedSimpArgs false
set_option linter.unusedVariables false
namespace Go.Proofs.YtdgnhfhaaghoaaaGreatDoor
open Go.RowKit

def dig (x : Int) : ByteArray := ⟨#[UInt8.ofNat (48 + x.toNat)]⟩
theorem dig_size (x : Int) : (dig x).size = 1 := rfl

set_option maxHeartbeats 400000 in
theorem dec_any (x : Int) (w : World) (h0 : 0 ≤ x) (h1 : x ≤ 7) :
    Calls Tryz.prog 144 #[.int .i64 x] w fun e w' => e = .returned (.string (dig x)) ∧ w = w' := by
  obtain ⟨m, rfl⟩ := Int.eq_ofNat_of_zero_le h0
  have H := Lib.hid (Any.strconv_Itoa_small Tryz.lays171 m (by omega) w)
  have e : Lib.decDigits m = [UInt8.ofNat (48 + m)] := by rw [Lib.decDigits, dif_pos (by omega)]
  rw [e] at H
  go_enter Tryz.func144, Tryz.ntmps144
  go_wp2_with fail
  refine H.out.mono ?_
  rintro e w1 ⟨rfl, rfl⟩
  go_wp2_with fail
  go_ret
  exact ⟨by show Ending.returned (Value.string ⟨#[48 + UInt8.ofNat m]⟩) = _; simp [dig], rfl⟩

set_option maxHeartbeats 1000000 in
theorem l1Num_any (x : Int) (w : World) (h0 : 0 ≤ x) (h1 : x ≤ 7) :
    Calls Tryz.prog 146 #[.int .i64 x] w fun e w' => e = .returned (.string (dig x)) ∧ w = w' := by
  rcases (show x = 0 ∨ x = 1 ∨ x = 2 ∨ x = 3 ∨ x = 4 ∨ x = 5 ∨ x = 6 ∨ x = 7 by omega) with rfl | rfl | rfl | rfl | rfl | rfl | rfl | rfl
  all_goals
    go_enter Tryz.func146, Tryz.ntmps146
    go_wp2_with fail
    go_ret
    exact ⟨rfl, rfl⟩

/-- The text of the formula at a place, and the place behind it. -/
def fText : Nat → List Int → Int → ByteArray × Int
  | 0, _, _ => (⟨#[]⟩, 0)
  | n + 1, f, p =>
    if f.getD p.toNat 0 == 0 then (⟨#[116]⟩, p + 1)
    else if f.getD p.toNat 0 == 1 then ((⟨#[109]⟩ : ByteArray) ++ dig (f.getD (p + 1).toNat 0), p + 2)
    else if f.getD p.toNat 0 == 2 then ((⟨#[33]⟩ : ByteArray) ++ (fText n f (p + 1)).1, (fText n f (p + 1)).2)
    else if f.getD p.toNat 0 == 3 then ((⟨#[38]⟩ : ByteArray) ++ (fText n f (p + 1)).1 ++ (fText n f (fText n f (p + 1)).2).1, (fText n f (fText n f (p + 1)).2).2)
    else ((⟨#[60]⟩ : ByteArray) ++ dig (f.getD (p + 1).toNat 0) ++ ⟨#[62]⟩ ++ (fText n f (p + 2)).1, (fText n f (p + 2)).2)

theorem fText_end (n : Nat) (f : List Int) : ∀ p, 0 ≤ fEnd n f p → (fText n f p).2 = fEnd n f p ∧ (((fText n f p).1.size : Int) ≤ 2 * (fEnd n f p - p)) := by
  induction n with
  | zero => intro p h; simp [fEnd] at h
  | succ n ih =>
    intro p h
    have hp := fEnd_p0 h
    obtain ⟨k, rfl⟩ := Int.eq_ofNat_of_zero_le hp.1
    have e1 : ((k : Int) + 1).toNat = k + 1 := by omega
    unfold fText
    rw [Int.toNat_natCast, e1]
    rcases fEnd_step h with ⟨h0, h1⟩ | ⟨h0, hk, ha, hb, h1⟩ | ⟨h0, h1⟩ | ⟨h0, ha, h1⟩ | ⟨h0, hk, ha, hb, h1⟩
    · rw [h1, h0]
      exact ⟨rfl, by show (1 : Int) ≤ _; omega⟩
    · rw [h1, h0]
      refine ⟨rfl, ?_⟩
      show ((((⟨#[109]⟩ : ByteArray) ++ dig _).size : Nat) : Int) ≤ _
      rw [ByteArray.size_append, dig_size]
      show ((1 + 1 : Nat) : Int) ≤ _
      omega
    · rw [h1] at h ⊢
      rw [h0]
      obtain ⟨i1, i2⟩ := ih _ h
      refine ⟨i1, ?_⟩
      show ((((⟨#[33]⟩ : ByteArray) ++ _).size : Nat) : Int) ≤ _
      rw [ByteArray.size_append]
      show ((1 + _ : Nat) : Int) ≤ _
      omega
    · rw [h1] at h ⊢
      rw [h0]
      obtain ⟨i1, i2⟩ := ih _ ha
      have ip := fEnd_pos ha
      simp only [show ((3 : Int) == 0) = false from rfl, show ((3 : Int) == 1) = false from rfl, show ((3 : Int) == 2) = false from rfl, show ((3 : Int) == 3) = true from rfl, Bool.false_eq_true, if_false, if_true]
      rw [i1]
      obtain ⟨j1, j2⟩ := ih _ h
      refine ⟨j1, ?_⟩
      rw [ByteArray.size_append, ByteArray.size_append]
      show ((1 + _ + _ : Nat) : Int) ≤ _
      omega
    · rw [h1] at h ⊢
      rw [h0]
      obtain ⟨i1, i2⟩ := ih _ h
      refine ⟨i1, ?_⟩
      simp only [show ((4 : Int) == 0) = false from rfl, show ((4 : Int) == 1) = false from rfl, show ((4 : Int) == 2) = false from rfl, show ((4 : Int) == 3) = false from rfl, Bool.false_eq_true, if_false]
      rw [ByteArray.size_append, ByteArray.size_append, ByteArray.size_append, dig_size]
      show ((1 + 1 + 1 + _ : Nat) : Int) ≤ _
      omega

set_option maxRecDepth 100000 in
set_option maxHeartbeats 2000000 in
theorem formulaText_any (A : Option Addr) (c : Nat) (f : List Int) (hf : f.length ≤ 200) (w : World) (hA : Cells w A (ints f)) :
    ∀ (n : Nat) (p : Int), 0 ≤ fEnd n f p →
    Calls Tryz.prog 72 #[.slice A f.length c, .int .i64 p] w fun e w' => e = .returned (.tuple #[.string (fText n f p).1, .int .i64 (fText n f p).2]) ∧ w = w' := by
  intro n
  induction n with
  | zero => intro p h; simp [fEnd] at h
  | succ n ih =>
    intro p h
    have hp := fEnd_p0 h
    obtain ⟨k, rfl⟩ := Int.eq_ofNat_of_zero_le hp.1
    have hk : k < f.length := by omega
    have e1 : ((k : Int) + 1).toNat = k + 1 := by omega
    obtain ⟨b, o, rfl, hc⟩ := hA.int hk
    have c0 := hc k hk
    rw [fText, Int.toNat_natCast, e1]
    rcases fEnd_step h with ⟨h0, h1⟩ | ⟨h0, hk1, ha, hb, h1⟩ | ⟨h0, h1⟩ | ⟨h0, ha, h1⟩ | ⟨h0, hk1, ha, hb, h1⟩
    · rw [h0] at c0 ⊢
      simp only [show ((0 : Int) == 0) = true from rfl, if_true]
      clear hc ih h1 hA h
      go_enter Tryz.func72, Tryz.ntmps72
      go_wp2_with fail
      go_ret2
      exact ⟨rfl, rfl⟩
    · rw [h0] at c0 ⊢
      have c1 := hc (k + 1) hk1
      simp only [show ((1 : Int) == 0) = false from rfl, show ((1 : Int) == 1) = true from rfl, Bool.false_eq_true, if_false, if_true]
      generalize f.getD (k + 1) 0 = d at *
      have hsz := dig_size d
      clear hc ih h1 hA h
      go_enter Tryz.func72, Tryz.ntmps72
      go_wp2_with ((with_reducible refine (dec_any d _ ha hb).mono ?_); rintro e w' ⟨rfl, rfl⟩)
      go_ret2
      exact ⟨rfl, rfl⟩
    · rw [h0] at c0 ⊢
      rw [h1] at h
      simp only [show ((2 : Int) == 0) = false from rfl, show ((2 : Int) == 1) = false from rfl, show ((2 : Int) == 2) = true from rfl, Bool.false_eq_true, if_false, if_true]
      have H := Lib.hid (ih _ h)
      have hsz := (fText_end n f _ h).2
      have hb1 := fEnd_pos h
      have hsz' : (fText n f ((k : Int) + 1)).1.size ≤ 400 := by omega
      generalize fText n f ((k : Int) + 1) = r at *
      clear hc ih h1 hA h hsz hb1
      go_enter Tryz.func72, Tryz.ntmps72
      go_wp2_with ((with_reducible refine H.out.mono ?_); rintro e w' ⟨rfl, rfl⟩)
      go_ret2
      exact ⟨rfl, rfl⟩
    · rw [h0] at c0 ⊢
      rw [h1] at h
      simp only [show ((3 : Int) == 0) = false from rfl, show ((3 : Int) == 1) = false from rfl, show ((3 : Int) == 2) = false from rfl, show ((3 : Int) == 3) = true from rfl, Bool.false_eq_true, if_false, if_true]
      have H := Lib.hid (ih _ ha)
      have i1 := (fText_end n f _ ha).1
      rw [← i1] at h
      have H2 := Lib.hid (ih _ h)
      have hsz := (fText_end n f _ ha).2
      have hb1 := fEnd_pos ha
      have hsz2 := (fText_end n f _ h).2
      have hb2 := fEnd_pos h
      have hsz' : (fText n f ((k : Int) + 1)).1.size ≤ 400 := by omega
      generalize fText n f ((k : Int) + 1) = r at *
      have hsz2' : (fText n f r.2).1.size ≤ 400 := by omega
      generalize fText n f r.2 = r2 at *
      have hsum : ((⟨#[38]⟩ : ByteArray) ++ r.1).size ≤ 500 := by rw [ByteArray.size_append]; show 1 + r.1.size ≤ 500; omega
      clear hc ih h1 hA h hsz hb1 ha i1 hsz2 hb2
      go_enter Tryz.func72, Tryz.ntmps72
      go_wp2_with (first | ((with_reducible refine H.out.mono ?_); rintro e w' ⟨rfl, rfl⟩) | ((with_reducible refine H2.out.mono ?_); rintro e w' ⟨rfl, rfl⟩))
      go_ret2
      exact ⟨rfl, rfl⟩
    · rw [h0] at c0 ⊢
      rw [h1] at h
      have c1 := hc (k + 1) hk1
      simp only [show ((4 : Int) == 0) = false from rfl, show ((4 : Int) == 1) = false from rfl, show ((4 : Int) == 2) = false from rfl, show ((4 : Int) == 3) = false from rfl, Bool.false_eq_true, if_false]
      have H := Lib.hid (ih _ h)
      have hsz := (fText_end n f _ h).2
      have hb1 := fEnd_pos h
      have hsz' : (fText n f ((k : Int) + 2)).1.size ≤ 400 := by omega
      generalize fText n f ((k : Int) + 2) = r at *
      generalize f.getD (k + 1) 0 = d at *
      have hds := dig_size d
      have hs1 : ((⟨#[60]⟩ : ByteArray) ++ dig d).size ≤ 500 := by rw [ByteArray.size_append, dig_size]; decide
      have hs2 : ((⟨#[60]⟩ : ByteArray) ++ dig d ++ ⟨#[62]⟩).size ≤ 500 := by rw [ByteArray.size_append, ByteArray.size_append, dig_size]; decide
      clear hc ih h1 hA h hsz hb1
      go_enter Tryz.func72, Tryz.ntmps72
      go_wp2_with (first | ((with_reducible refine H.out.mono ?_); rintro e w' ⟨rfl, rfl⟩) | ((with_reducible refine (dec_any d _ ha hb).mono ?_); rintro e w' ⟨rfl, rfl⟩))
      go_ret2
      exact ⟨rfl, rfl⟩

set_option maxRecDepth 100000 in
set_option maxHeartbeats 2000000 in
theorem l11Text_any (A : Option Addr) (c : Nat) (f : List Int) (hf : f.length ≤ 200) (w : World) (hA : Cells w A (ints f)) :
    ∀ (n : Nat) (p : Int), 0 ≤ fEnd n f p →
    Calls Tryz.prog 74 #[.slice A f.length c, .int .i64 p] w fun e w' => e = .returned (.tuple #[.string (fText n f p).1, .int .i64 (fText n f p).2]) ∧ w = w' := by
  intro n
  induction n with
  | zero => intro p h; simp [fEnd] at h
  | succ n ih =>
    intro p h
    have hp := fEnd_p0 h
    obtain ⟨k, rfl⟩ := Int.eq_ofNat_of_zero_le hp.1
    have hk : k < f.length := by omega
    have e1 : ((k : Int) + 1).toNat = k + 1 := by omega
    obtain ⟨b, o, rfl, hc⟩ := hA.int hk
    have c0 := hc k hk
    rw [fText, Int.toNat_natCast, e1]
    rcases fEnd_step h with ⟨h0, h1⟩ | ⟨h0, hk1, ha, hb, h1⟩ | ⟨h0, h1⟩ | ⟨h0, ha, h1⟩ | ⟨h0, hk1, ha, hb, h1⟩
    · rw [h0] at c0 ⊢
      simp only [show ((0 : Int) == 0) = true from rfl, if_true]
      clear hc ih h1 hA h
      go_enter Tryz.func74, Tryz.ntmps74
      go_wp2_with fail
      go_ret2
      exact ⟨rfl, rfl⟩
    · rw [h0] at c0 ⊢
      have c1 := hc (k + 1) hk1
      simp only [show ((1 : Int) == 0) = false from rfl, show ((1 : Int) == 1) = true from rfl, Bool.false_eq_true, if_false, if_true]
      generalize f.getD (k + 1) 0 = d at *
      have hsz := dig_size d
      clear hc ih h1 hA h
      go_enter Tryz.func74, Tryz.ntmps74
      go_wp2_with ((with_reducible refine (l1Num_any d _ ha hb).mono ?_); rintro e w' ⟨rfl, rfl⟩)
      go_ret2
      exact ⟨rfl, rfl⟩
    · rw [h0] at c0 ⊢
      rw [h1] at h
      simp only [show ((2 : Int) == 0) = false from rfl, show ((2 : Int) == 1) = false from rfl, show ((2 : Int) == 2) = true from rfl, Bool.false_eq_true, if_false, if_true]
      have H := Lib.hid (ih _ h)
      have hsz := (fText_end n f _ h).2
      have hb1 := fEnd_pos h
      have hsz' : (fText n f ((k : Int) + 1)).1.size ≤ 400 := by omega
      generalize fText n f ((k : Int) + 1) = r at *
      clear hc ih h1 hA h hsz hb1
      go_enter Tryz.func74, Tryz.ntmps74
      go_wp2_with ((with_reducible refine H.out.mono ?_); rintro e w' ⟨rfl, rfl⟩)
      go_ret2
      exact ⟨rfl, rfl⟩
    · rw [h0] at c0 ⊢
      rw [h1] at h
      simp only [show ((3 : Int) == 0) = false from rfl, show ((3 : Int) == 1) = false from rfl, show ((3 : Int) == 2) = false from rfl, show ((3 : Int) == 3) = true from rfl, Bool.false_eq_true, if_false, if_true]
      have H := Lib.hid (ih _ ha)
      have i1 := (fText_end n f _ ha).1
      rw [← i1] at h
      have H2 := Lib.hid (ih _ h)
      have hsz := (fText_end n f _ ha).2
      have hb1 := fEnd_pos ha
      have hsz2 := (fText_end n f _ h).2
      have hb2 := fEnd_pos h
      have hsz' : (fText n f ((k : Int) + 1)).1.size ≤ 400 := by omega
      generalize fText n f ((k : Int) + 1) = r at *
      have hsz2' : (fText n f r.2).1.size ≤ 400 := by omega
      generalize fText n f r.2 = r2 at *
      have hsum : ((⟨#[38]⟩ : ByteArray) ++ r.1).size ≤ 500 := by rw [ByteArray.size_append]; show 1 + r.1.size ≤ 500; omega
      clear hc ih h1 hA h hsz hb1 ha i1 hsz2 hb2
      go_enter Tryz.func74, Tryz.ntmps74
      go_wp2_with (first | ((with_reducible refine H.out.mono ?_); rintro e w' ⟨rfl, rfl⟩) | ((with_reducible refine H2.out.mono ?_); rintro e w' ⟨rfl, rfl⟩))
      go_ret2
      exact ⟨rfl, rfl⟩
    · rw [h0] at c0 ⊢
      rw [h1] at h
      have c1 := hc (k + 1) hk1
      simp only [show ((4 : Int) == 0) = false from rfl, show ((4 : Int) == 1) = false from rfl, show ((4 : Int) == 2) = false from rfl, show ((4 : Int) == 3) = false from rfl, Bool.false_eq_true, if_false]
      have H := Lib.hid (ih _ h)
      have hsz := (fText_end n f _ h).2
      have hb1 := fEnd_pos h
      have hsz' : (fText n f ((k : Int) + 2)).1.size ≤ 400 := by omega
      generalize fText n f ((k : Int) + 2) = r at *
      generalize f.getD (k + 1) 0 = d at *
      have hds := dig_size d
      have hs1 : ((⟨#[60]⟩ : ByteArray) ++ dig d).size ≤ 500 := by rw [ByteArray.size_append, dig_size]; decide
      have hs2 : ((⟨#[60]⟩ : ByteArray) ++ dig d ++ ⟨#[62]⟩).size ≤ 500 := by rw [ByteArray.size_append, ByteArray.size_append, dig_size]; decide
      clear hc ih h1 hA h hsz hb1
      go_enter Tryz.func74, Tryz.ntmps74
      go_wp2_with (first | ((with_reducible refine H.out.mono ?_); rintro e w' ⟨rfl, rfl⟩) | ((with_reducible refine (l1Num_any d _ ha hb).mono ?_); rintro e w' ⟨rfl, rfl⟩))
      go_ret2
      exact ⟨rfl, rfl⟩

end Go.Proofs.YtdgnhfhaaghoaaaGreatDoor

set_option linter.unusedVariables false
namespace Go.Proofs.YtdgnhfhaaghoaaaGreatDoor
open Go.RowKit

def fT (f : List Int) : ByteArray := if isF f then (fText f.length f 0).1 else ⟨#[]⟩

theorem isF_end {f : List Int} (h : isF f = true) : 0 ≤ fEnd f.length f 0 ∧ f.length ≤ 200 := by
  unfold isF at h
  simp only [Bool.and_eq_true, beq_iff_eq] at h
  have := inB_true h.1
  omega

set_option maxHeartbeats 400000 in
theorem implFormulaText_any (A : Option Addr) (c : Nat) (f : List Int) (w : World) (hn : f.length ≤ 1048576) (hA : Cells w A (ints f)) :
    Calls Tryz.prog 25 #[.slice A f.length c] w fun e w' => e = .returned (.tuple #[.string (fT f), .bool (isF f)]) ∧ w = w' := by
  have H := Lib.hid (implIsFormula_any A c f w hn hA)
  unfold fT
  by_cases hf : isF f = true
  · have h0 := isF_end hf
    rw [hf] at H ⊢
    rw [if_pos rfl]
    have H2 := Lib.hid (formulaText_any A c f h0.2 w hA f.length 0 h0.1)
    generalize fText f.length f 0 = r at *
    clear h0 hA
    go_enter Tryz.func25, Tryz.ntmps25
    go_wp2_with (first | ((with_reducible refine H.out.mono ?_); rintro e w' ⟨rfl, rfl⟩) | ((with_reducible refine H2.out.mono ?_); rintro e w' ⟨rfl, rfl⟩))
    go_ret2
    exact ⟨rfl, rfl⟩
  · have hf : isF f = false := by simpa using hf
    rw [hf] at H ⊢
    simp only [Bool.false_eq_true, if_false]
    go_enter Tryz.func25, Tryz.ntmps25
    go_wp2_with ((with_reducible refine H.out.mono ?_); rintro e w' ⟨rfl, rfl⟩)
    go_ret2
    exact ⟨rfl, rfl⟩

set_option maxHeartbeats 400000 in
theorem specFormulaText_any (A : Option Addr) (c : Nat) (f : List Int) (w : World) (hn : f.length ≤ 1048576) (hA : Cells w A (ints f)) :
    Calls Tryz.prog 26 #[.slice A f.length c] w fun e w' => e = .returned (.tuple #[.string (fT f), .bool (isF f)]) ∧ w = w' := by
  have H := Lib.hid (l11Formula_any A c f w hn hA)
  unfold fT
  by_cases hf : isF f = true
  · have h0 := isF_end hf
    rw [hf] at H ⊢
    rw [if_pos rfl]
    have H2 := Lib.hid (l11Text_any A c f h0.2 w hA f.length 0 h0.1)
    generalize fText f.length f 0 = r at *
    clear h0 hA
    go_enter Tryz.func26, Tryz.ntmps26
    go_wp2_with (first | ((with_reducible refine H.out.mono ?_); rintro e w' ⟨rfl, rfl⟩) | ((with_reducible refine H2.out.mono ?_); rintro e w' ⟨rfl, rfl⟩))
    go_ret2
    exact ⟨rfl, rfl⟩
  · have hf : isF f = false := by simpa using hf
    rw [hf] at H ⊢
    simp only [Bool.false_eq_true, if_false]
    go_enter Tryz.func26, Tryz.ntmps26
    go_wp2_with ((with_reducible refine H.out.mono ?_); rintro e w' ⟨rfl, rfl⟩)
    go_ret2
    exact ⟨rfl, rfl⟩

end Go.Proofs.YtdgnhfhaaghoaaaGreatDoor
