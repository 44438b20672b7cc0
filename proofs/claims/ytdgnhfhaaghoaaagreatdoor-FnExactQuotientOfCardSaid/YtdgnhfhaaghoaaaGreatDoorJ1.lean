/- Labelled systems in memory, as read: slices of slices of ints, slices of triples; the sizes that the law package reckons. -/
import Derived.Test.YtdgnhfhaaghoaaaGreatDoorProg
import Derived.Test.YtdgnhfhaaghoaaaGreatDoorJ0
set_option linter.unusedVariables false
namespace Go.Proofs.YtdgnhfhaaghoaaaGreatDoor
open Go.RowKit

def RI (w : World) (v : Value) (xs : List Int) : Prop := ∃ A c, v = .slice A xs.length c ∧ xs.length ≤ maxLen ∧ Cells w A (ints xs)

def RSS (w : World) (v : Value) (xss : List (List Int)) : Prop :=
  ∃ A c vs, v = .slice A xss.length c ∧ xss.length ≤ maxLen ∧ vs.length = xss.length ∧ Cells w A vs ∧ ∀ (i : Nat) u xs, vs[i]? = some u → xss[i]? = some xs → RI w u xs

abbrev I3 := Int × Int × Int
def tri (t : I3) : List Value := [.int .i64 t.1, .int .i64 t.2.1, .int .i64 t.2.2]
def RA3 (w : World) (v : Value) (l : List I3) : Prop := ∃ A c, v = .slice A l.length c ∧ l.length ≤ maxLen ∧ Cells w A (l.flatMap tri)

structure Lab where
  shows : List (List Int)
  steps : List I3
def RLab (w : World) (v : Value) (l : Lab) : Prop := ∃ sv tv, v = .agg #[sv, tv] ∧ RSS w sv l.shows ∧ RA3 w tv l.steps

section
variable {w w' : World}
theorem RI.below {v : Value} {xs : List Int} (h : RI w v xs) (hb : Below w.heap.size w w') : RI w' v xs := by
  obtain ⟨A, c, e, hm, hc⟩ := h
  exact ⟨A, c, e, hm, hc.below hb⟩
theorem RSS.below {v : Value} {xss : List (List Int)} (h : RSS w v xss) (hb : Below w.heap.size w w') : RSS w' v xss := by
  obtain ⟨A, c, vs, e, hm, hl, hc, hi⟩ := h
  exact ⟨A, c, vs, e, hm, hl, hc.below hb, fun i u xs h1 h2 => (hi i u xs h1 h2).below hb⟩
theorem RA3.below {v : Value} {l : List I3} (h : RA3 w v l) (hb : Below w.heap.size w w') : RA3 w' v l := by
  obtain ⟨A, c, e, hm, hc⟩ := h
  exact ⟨A, c, e, hm, hc.below hb⟩
theorem RLab.below {v : Value} {l : Lab} (h : RLab w v l) (hb : Below w.heap.size w w') : RLab w' v l := by
  obtain ⟨sv, tv, e, hs, ht⟩ := h
  exact ⟨sv, tv, e, hs.below hb, ht.below hb⟩
end

/-- What is left after a row of n. -/
def szRow (n : Nat) (left : Int) : Int := if left - n < 0 then -1 else left - n
def szRows : List Nat → Int → Int
  | [], left => left
  | n :: r, left => if left - n < 0 then -1 else szRows r (left - n)
def szSS (xss : List (List Int)) (left : Int) : Int := if left - xss.length < 0 then -1 else szRows (xss.map List.length) (left - xss.length)

set_option maxHeartbeats 400000 in
theorem szIntS_any (A : Option Addr) (n c : Nat) (left : Int) (w : World) (hn : n ≤ maxLen) (h0 : 0 ≤ left) (h1 : left ≤ 1048576) :
    Calls Tryz.prog 140 #[.slice A n c, .int .i64 left] w fun e w' => e = .returned (.int .i64 (szRow n left)) ∧ w = w' := by
  have hn' : (n : Int) ≤ 9223372036854775807 := by unfold maxLen at hn; omega
  clear hn
  unfold szRow
  by_cases hl : left - (n : Int) < 0
  · rw [if_pos hl]
    go_enter Tryz.func140, Tryz.ntmps140
    go_wp2
    go_ret
    exact ⟨rfl, rfl⟩
  · rw [if_neg hl]
    go_enter Tryz.func140, Tryz.ntmps140
    go_wp2
    go_ret
    exact ⟨rfl, rfl⟩

set_option maxHeartbeats 400000 in
theorem szIntA3S_any (A : Option Addr) (n c : Nat) (left : Int) (w : World) (hn : n ≤ maxLen) (h0 : 0 ≤ left) (h1 : left ≤ 1048576) :
    Calls Tryz.prog 64 #[.slice A n c, .int .i64 left] w fun e w' => e = .returned (.int .i64 (szRow n left)) ∧ w = w' := by
  have hn' : (n : Int) ≤ 9223372036854775807 := by unfold maxLen at hn; omega
  clear hn
  unfold szRow
  by_cases hl : left - (n : Int) < 0
  · rw [if_pos hl]
    go_enter Tryz.func64, Tryz.ntmps64
    go_wp2
    go_ret
    exact ⟨rfl, rfl⟩
  · rw [if_neg hl]
    go_enter Tryz.func64, Tryz.ntmps64
    go_wp2
    go_ret
    exact ⟨rfl, rfl⟩

theorem szRows_neg (ns : List Nat) : ∀ l : Int, 0 ≤ l → szRows ns l = -1 ∨ 0 ≤ szRows ns l := by
  induction ns with
  | nil => intro l h; exact .inr h
  | cons n r ih =>
    intro l h
    unfold szRows
    split
    · exact .inl rfl
    · exact ih _ (by omega)

theorem szRows_sum (ns : List Nat) : ∀ l : Int, 0 ≤ l → 0 ≤ szRows ns l → (ns.sum : Int) + szRows ns l = l := by
  induction ns with
  | nil => intro l h _; simp [szRows]
  | cons n r ih =>
    intro l h
    unfold szRows
    split
    · intro h2; omega
    · intro h2
      have := ih _ (by omega) h2
      simp only [List.sum_cons]
      omega

theorem szRows_le (ns : List Nat) : ∀ l : Int, 0 ≤ l → szRows ns l ≤ l := by
  intro l h
  rcases szRows_neg ns l h with e | e
  · omega
  · have := szRows_sum ns l h e; omega

set_option maxHeartbeats 1000000 in
theorem szIntSS_any (v : Value) (xss : List (List Int)) (left : Int) (w : World) (h0 : 0 ≤ left) (h1 : left ≤ 1048576) (hv : RSS w v xss) :
    Calls Tryz.prog 63 #[v, .int .i64 left] w fun e w' => e = .returned (.int .i64 (szSS xss left)) ∧ w = w' := by
  obtain ⟨A, c, vs, rfl, hn, hvl, hc, hi⟩ := hv
  have hn' : (xss.length : Int) ≤ 9223372036854775807 := by unfold maxLen at hn; omega
  clear hn
  unfold szSS
  by_cases hl : left - (xss.length : Int) < 0
  · rw [if_pos hl]
    go_enter Tryz.func63, Tryz.ntmps63
    go_wp2
    go_ret
    exact ⟨rfl, rfl⟩
  · rw [if_neg hl]
    go_enter Tryz.func63, Tryz.ntmps63
    go_wp2
    go_loop [1, 5] (fun l i => ∃ (k : Nat) (m : Int), k ≤ xss.length ∧ i = .int .i64 k ∧ l = .int .i64 m ∧ 0 ≤ m ∧ m ≤ 1048576 ∧ szRows (xss.map List.length) (left - xss.length) = szRows ((xss.map List.length).drop k) m)
      (fun _ i => xss.length - (intOf i).toNat)
    case atStart => exact ⟨0, _, Nat.zero_le _, rfl, rfl, by omega, by omega, by simp⟩
    case round =>
      obtain ⟨k, m, hk, rfl, rfl, hm0, hm1, hE⟩ := hrel
      by_cases hlt : k < xss.length
      · have hku : k < vs.length := by omega
        obtain ⟨b, o, rfl, hcc⟩ := hc.at_ hku
        have hck := hcc k _ (List.getElem?_eq_getElem hku)
        obtain ⟨B, d, hb, hbm, _⟩ := hi k _ _ (List.getElem?_eq_getElem hku) (List.getElem?_eq_getElem hlt)
        rw [hb] at hck
        have hd : (xss.map List.length).drop k = xss[k].length :: (xss.map List.length).drop (k + 1) := by
          rw [List.drop_eq_getElem_cons (by simpa using hlt)]
          simp
        rw [hd, szRows] at hE
        have HE := Lib.hid hE
        clear hE hd hb hcc hc hi hvl hku
        generalize xss[k].length = q at *
        by_cases hq : m - (q : Int) < 0
        · have e1 : szRow q m = -1 := by unfold szRow; rw [if_pos hq]
          have H := Lib.hid (szIntS_any B q d m w hbm hm0 hm1)
          rw [e1] at H
          rw [if_pos hq] at HE
          clear e1
          go_wp2_with ((with_reducible refine H.out.mono ?_); rintro e w' ⟨rfl, rfl⟩)
          go_ret
          rw [HE.out]
          exact ⟨rfl, rfl⟩
        · have e1 : szRow q m = m - q := by unfold szRow; rw [if_neg hq]
          have H := Lib.hid (szIntS_any B q d m w hbm hm0 hm1)
          rw [e1] at H
          rw [if_neg hq] at HE
          clear e1
          go_wp2_with ((with_reducible refine H.out.mono ?_); rintro e w' ⟨rfl, rfl⟩)
          go_round
          case rel => exact ⟨k + 1, m - q, by omega, by go_num, rfl, by omega, by omega, HE.out⟩
          case measure => simp [intOf]; omega
      · obtain rfl : k = xss.length := by omega
        have hd : (xss.map List.length).drop xss.length = [] := by simp
        rw [hd, szRows] at hE
        have HE := Lib.hid hE
        clear hE hd
        go_wp2
        go_ret
        rw [HE.out]
        exact ⟨rfl, rfl⟩

def szLab (l : Lab) (left : Int) : Int := if szSS l.shows left < 0 then -1 else szRow l.steps.length (szSS l.shows left)

set_option maxHeartbeats 1000000 in
theorem szLabelled_any (v : Value) (l : Lab) (left : Int) (w : World) (h0 : 0 ≤ left) (h1 : left ≤ 1048576) (hv : RLab w v l) :
    Calls Tryz.prog 17 #[v, .int .i64 left] w fun e w' => e = .returned (.int .i64 (szLab l left)) ∧ Below w.heap.size w w' := by
  obtain ⟨sv, tv, rfl, hs, ht⟩ := hv
  have hb1 : ∀ o, Below w.heap.size w (w.alloc o) := fun o => (Below.refl _ _).alloc (Nat.le_refl _) o
  have hle : szSS l.shows left ≤ left := by
    unfold szSS
    split
    · omega
    · have := szRows_le (l.shows.map List.length) (left - l.shows.length) (by omega); omega
  have hng : szSS l.shows left = -1 ∨ 0 ≤ szSS l.shows left := by
    unfold szSS
    split
    · exact .inl rfl
    · exact szRows_neg _ _ (by omega)
  have H1 := Lib.hid (fun o => szIntSS_any sv l.shows left (w.alloc o) h0 h1 (hs.below (hb1 o)))
  obtain ⟨A, c, rfl, hm, _⟩ := ht
  unfold szLab
  generalize szSS l.shows left = z at *
  by_cases hz : z < 0
  · rw [if_pos hz]
    go_enter Tryz.func17, Tryz.ntmps17
    go_wp2_with ((with_reducible refine (H1.out _).mono ?_); rintro e w' ⟨rfl, rfl⟩)
    go_ret
    exact ⟨rfl, hb1 _⟩
  · rw [if_neg hz]
    have H2 := Lib.hid (fun o => szIntA3S_any A l.steps.length c z (w.alloc o) hm (by omega) (by omega))
    have hs : szRow l.steps.length z = -1 ∨ 0 ≤ szRow l.steps.length z := by unfold szRow; split <;> omega
    generalize szRow l.steps.length z = y at *
    by_cases hy : y < 0
    · obtain rfl : y = -1 := by omega
      go_enter Tryz.func17, Tryz.ntmps17
      go_wp2_with (first | ((with_reducible refine (H1.out _).mono ?_); rintro e w' ⟨rfl, rfl⟩) | ((with_reducible refine (H2.out _).mono ?_); rintro e w' ⟨rfl, rfl⟩))
      go_ret
      exact ⟨rfl, hb1 _⟩
    · go_enter Tryz.func17, Tryz.ntmps17
      go_wp2_with (first | ((with_reducible refine (H1.out _).mono ?_); rintro e w' ⟨rfl, rfl⟩) | ((with_reducible refine (H2.out _).mono ?_); rintro e w' ⟨rfl, rfl⟩))
      go_ret
      exact ⟨rfl, hb1 _⟩

end Go.Proofs.YtdgnhfhaaghoaaaGreatDoor
