/- Labelled systems: the formula that tells two states apart. Plain law: the program's way and the reference's way give the same formula, or none. slices.Compact at numbers: library walked. -/
import Derived.Test.YtdgnhfhaaghoaaaGreatDoorJ7
import Derived.Test.YtdgnhfhaaghoaaaGreatDoorProg
import Derived.Test.YtdgnhfhaaghoaaaGreatDoorJ22
import Derived.Test.YtdgnhfhaaghoaaaGreatDoorJ13
import Derived.Test.YtdgnhfhaaghoaaaGreatDoorJ10
import Derived.Lib.SliceRun
import Derived.Deep.QuietTactic
import Derived.BigQuiet
set_option linter.unusedVariables false
namespace Go.Proofs.YtdgnhfhaaghoaaaGreatDoor

def hasM (l : List Int) (m : Nat) : Bool := l.contains (m : Int)
def diffM (a b : List Int) : Option Nat := (List.range 8).find? fun m => hasM a m != hasM b m
def markF (a b : List Int) : List Int := match diffM a b with
  | some m => if hasM a m then [1, (m : Int)] else [2, 1, (m : Int)]
  | none => []
def chkF (f : List Int) : Option (List Int) := if f.length ≤ 200 then some f else none
/-- The round in which two states come apart. -/
def roundOf (l : Lab) (s t : Nat) : Option Nat := (List.range (l.shows.length + 1)).find? fun m => (partsL l m).getD s 0 != (partsL l m).getD t 0
/-- The first step of a state that none of another one answers. -/
def lonelyB (ss : List I3) (parts : List Int) (s t : Nat) (x : I3) : Bool := (x.1 == (s : Int)) && !((setOf ss parts (t : Int) x.2.1).contains (atP parts x.2.2))
def lonely (ss : List I3) (parts : List Int) (s t : Nat) : Option I3 := ss.find? (lonelyB ss parts s t)

/-- The conjunction: as the reference makes it of formulas, and as the program gathers it. -/
def allS : List (List Int) → List Int
  | [] => [0]
  | [a] => a
  | a :: b :: r => 3 :: (a ++ allS (b :: r))
def mapO (ap : Int → Option (List Int)) : List Int → Option (List (List Int))
  | [] => some []
  | o :: os => match ap o with
    | none => none
    | some a => match mapO ap os with
      | none => none
      | some r => some (a :: r)
def allP (ap : Int → Option (List Int)) : List Int → Option (List Int)
  | [] => some [0]
  | [o] => ap o
  | o :: p :: os => match ap o with
    | none => none
    | some a => match allP ap (p :: os) with
      | none => none
      | some r => chkF (3 :: (a ++ r))

theorem mapO_len {ap : Int → Option (List Int)} : ∀ {os : List Int} {r : List (List Int)}, mapO ap os = some r → r.length = os.length
  | [], r, h => by simp [mapO] at h; simp [← h]
  | o :: os, r, h => by
    rw [mapO] at h
    split at h
    · cases h
    · split at h
      · cases h
      · rename_i hr
        injection h with h
        rw [← h, List.length_cons, List.length_cons, mapO_len hr]
theorem all_same (ap : Int → Option (List Int)) : ∀ os : List Int, (mapO ap os = none ∧ allP ap os = none) ∨ ∃ r, mapO ap os = some r ∧ (allP ap os = some (allS r) ∨ (allP ap os = none ∧ 200 < (allS r).length))
  | [] => .inr ⟨[], rfl, .inl rfl⟩
  | [o] => by
    cases h : ap o with
    | none => left; simp [mapO, allP, h]
    | some a => right; exact ⟨[a], by simp [mapO, h], .inl (by simp [allP, allS, h])⟩
  | o :: p :: os => by
    have ih := all_same ap (p :: os)
    cases h : ap o with
    | none => left; rw [mapO, allP, h]; exact ⟨rfl, rfl⟩
    | some a =>
      rcases ih with ⟨h1, h2⟩ | ⟨r, h1, h2⟩
      · left; rw [mapO, allP, h, h1, h2]; exact ⟨rfl, rfl⟩
      · right
        refine ⟨a :: r, by rw [mapO, h, h1], ?_⟩
        have hl := mapO_len h1
        cases r with
        | nil => simp at hl
        | cons b r =>
          rw [allP, h]
          rcases h2 with h2 | ⟨h2, h3⟩
          · rw [h2]
            show chkF (3 :: (a ++ allS (b :: r))) = some (3 :: (a ++ allS (b :: r))) ∨ (chkF (3 :: (a ++ allS (b :: r))) = none ∧ 200 < (allS (a :: b :: r)).length)
            unfold chkF
            split
            · exact .inl rfl
            · rename_i hn
              refine .inr ⟨rfl, ?_⟩
              show 200 < (3 :: (a ++ allS (b :: r))).length
              omega
          · rw [h2]
            refine .inr ⟨rfl, ?_⟩
            show 200 < (3 :: (a ++ allS (b :: r))).length
            rw [List.length_cons, List.length_append]
            omega

def apart (l : Lab) : Nat → Nat → Nat → Option (List Int)
  | 0, _, _ => none
  | f + 1, s, t => match roundOf l s t with
    | none => none
    | some 0 => some (markF (l.shows.getD s []) (l.shows.getD t []))
    | some (m + 1) => match lonely l.steps (partsL l m) s t with
      | none => (apart l f t s).bind fun g => chkF (2 :: g)
      | some x => (allP (fun o => apart l f x.2.2.toNat o.toNat) (nextA l.steps (t : Int) x.2.1)).bind fun g => chkF (4 :: x.2.1 :: g)
/-- The reference's end of a step: all formulas, then their conjunction. -/
theorem spec_can (ap : Int → Option (List Int)) (a : Int) (os : List Int) : (allP ap os).bind (fun g => chkF (4 :: a :: g)) = (mapO ap os).bind (fun r => chkF (4 :: a :: allS r)) := by
  rcases all_same ap os with ⟨h1, h2⟩ | ⟨r, h1, h2 | ⟨h2, h3⟩⟩
  · rw [h1, h2]; rfl
  · rw [h1, h2]; rfl
  · rw [h1, h2]
    show none = chkF (4 :: a :: allS r)
    unfold chkF
    rw [if_neg (by simp; omega)]

theorem find_range {n : Nat} {p : Nat → Bool} {k : Nat} (h : (List.range n).find? p = some k) : k < n ∧ p k = true ∧ ∀ j, j < k → p j = false := by
  rw [List.find?_range_eq_some] at h
  exact ⟨List.mem_range.1 h.2.1, h.1, fun j hj => by simpa using h.2.2 j hj⟩

section
variable {l : Lab} {s t : Nat}
theorem round_some {m : Nat} (h : roundOf l s t = some m) : (partsL l m).getD s 0 ≠ (partsL l m).getD t 0 ∧ (∀ j, j < m → (partsL l j).getD s 0 = (partsL l j).getD t 0) ∧ m ≤ l.shows.length := by
  obtain ⟨h1, h2, h3⟩ := find_range h
  exact ⟨by simpa using h2, fun j hj => by simpa using h3 j hj, by omega⟩
theorem round_of_ne (k : Nat) (hk : k ≤ l.shows.length) (h : (partsL l k).getD s 0 ≠ (partsL l k).getD t 0) : ∃ m, roundOf l s t = some m ∧ m ≤ k := by
  cases hr : roundOf l s t with
  | none =>
    unfold roundOf at hr
    rw [List.find?_eq_none] at hr
    have := hr k (List.mem_range.2 (by omega))
    simp at this
    exact absurd this h
  | some m =>
    obtain ⟨_, h2, _⟩ := round_some hr
    refine ⟨m, rfl, ?_⟩
    rcases Nat.lt_or_ge k m with h3 | h3
    · exact absurd (h2 k h3) h
    · exact h3
theorem round_none (h : roundOf l s t = none) : (lastL l).getD s 0 = (lastL l).getD t 0 := by
  unfold roundOf at h
  rw [List.find?_eq_none] at h
  have := h l.shows.length (List.mem_range.2 (by omega))
  simpa [lastL] using this
theorem round_symm : roundOf l s t = roundOf l t s := by
  unfold roundOf
  congr 1
  funext m
  rw [Bool.eq_iff_iff]
  simp only [bne_iff_ne, ne_eq]
  exact ⟨fun h e => h e.symm, fun h e => h e.symm⟩
theorem lonely_none {ss : List I3} {parts : List Int} : lonely ss parts s t = none ↔ nextB ss parts s t = true := by
  unfold lonely
  rw [List.find?_eq_none, nextB_iff]
  constructor
  · intro h x hx e
    have := h x hx
    unfold lonelyB at this
    simp only [Bool.and_eq_true, beq_iff_eq, Bool.not_eq_true', not_and, Bool.not_eq_false] at this
    have := this e
    rw [List.contains_iff_mem] at this
    obtain ⟨u, hu, h1, h2, h3⟩ := setOf_mem.1 this
    exact ⟨u, hu, h1, h2, h3⟩
  · intro h x hx
    unfold lonelyB
    simp only [Bool.and_eq_true, beq_iff_eq, Bool.not_eq_true', not_and, Bool.not_eq_false]
    intro e
    obtain ⟨u, hu, h1, h2, h3⟩ := h x hx e
    rw [List.contains_iff_mem]
    exact setOf_mem.2 ⟨u, hu, h1, h2, h3⟩
theorem lonely_some {ss : List I3} {parts : List Int} {x : I3} (h : lonely ss parts s t = some x) : x ∈ ss ∧ x.1 = (s : Int) ∧ ∀ o ∈ nextA ss (t : Int) x.2.1, atP parts o ≠ atP parts x.2.2 := by
  unfold lonely at h
  have h1 := List.mem_of_find?_eq_some h
  have h2 := List.find?_some h
  unfold lonelyB at h2
  simp only [Bool.and_eq_true, beq_iff_eq, Bool.not_eq_true'] at h2
  refine ⟨h1, h2.1, fun o ho e => ?_⟩
  have : atP parts x.2.2 ∈ setOf ss parts (t : Int) x.2.1 := by
    rw [setOf_mem]
    unfold nextA at ho
    obtain ⟨u, hu, rfl⟩ := List.mem_map.1 ho
    rw [List.mem_filter] at hu
    simp only [Bool.and_eq_true, beq_iff_eq] at hu
    exact ⟨u, hu.1, hu.2.1, hu.2.2, e⟩
  rw [← List.contains_iff_mem, h2.2] at this
  cases this
/-- Where one of two states has no lonely step, the other one has. -/
theorem lonely_other {m : Nat} (hs : s < l.shows.length) (ht : t < l.shows.length) (h : roundOf l s t = some (m + 1)) (hn : lonely l.steps (partsL l m) s t = none) : ∃ x, lonely l.steps (partsL l m) t s = some x := by
  obtain ⟨h1, h2, _⟩ := round_some h
  cases hx : lonely l.steps (partsL l m) t s with
  | some x => exact ⟨x, rfl⟩
  | none =>
    exfalso
    apply h1
    rw [parts_iff l (m + 1) hs ht]
    exact sigB_iff.2 ⟨h2 m (by omega), lonely_none.1 hn, lonely_none.1 hx⟩

/-- How many steps the recursion has left. -/
def leftA (l : Lab) (s t : Nat) : Nat := match roundOf l s t with
  | none => 0
  | some 0 => 0
  | some (m + 1) => 2 * (m + 1) + if (lonely l.steps (partsL l m) s t).isNone then 1 else 0
theorem left_flip {m : Nat} (hs : s < l.shows.length) (ht : t < l.shows.length) (h : roundOf l s t = some (m + 1)) (hn : lonely l.steps (partsL l m) s t = none) : leftA l t s < leftA l s t := by
  obtain ⟨x, hx⟩ := lonely_other hs ht h hn
  unfold leftA
  rw [round_symm (s := t) (t := s), h]
  simp [hn, hx]
theorem left_le {k : Nat} (h : ∃ m, roundOf l s t = some m ∧ m ≤ k) : leftA l s t ≤ 2 * k + 1 := by
  obtain ⟨m, h1, h2⟩ := h
  unfold leftA
  rw [h1]
  cases m with
  | zero => dsimp only; omega
  | succ m => dsimp only; split <;> omega
theorem left_step {m : Nat} {x : I3} {o : Int} {a b : Nat} (h : roundOf l s t = some (m + 1)) (hx : lonely l.steps (partsL l m) s t = some x) (ho : o ∈ nextA l.steps (t : Int) x.2.1) (ha : x.2.2 = (a : Int)) (hb : o = (b : Int)) :
    leftA l a b < leftA l s t ∧ ∃ k, roundOf l a b = some k := by
  obtain ⟨_, _, hm⟩ := round_some h
  obtain ⟨_, _, h3⟩ := lonely_some hx
  have h4 := h3 o ho
  rw [ha, hb] at h4
  unfold atP at h4
  rw [Int.toNat_natCast, Int.toNat_natCast] at h4
  have h5 := round_of_ne (l := l) (s := a) (t := b) m (by omega) (fun e => h4 e.symm)
  refine ⟨?_, by obtain ⟨k, hk, _⟩ := h5; exact ⟨k, hk⟩⟩
  have h6 := left_le h5
  have h7 : leftA l s t = 2 * (m + 1) := by
    unfold leftA
    rw [h]
    simp [hx]
  omega
end

theorem diff_at {a b : List Int} {m : Nat} (h : diffM a b = some m) : m < 8 ∧ (hasM a m != hasM b m) = true ∧ ∀ j, j < m → (hasM a j != hasM b j) = false := by
  unfold diffM at h
  exact find_range h

end Go.Proofs.YtdgnhfhaaghoaaaGreatDoor

set_option linter.unusedVariables false
namespace Go.Proofs.YtdgnhfhaaghoaaaGreatDoor
open Go.RowKit

/-- An owned row of numbers, read at a place. -/
theorem owns_int {w : World} {B g n c : Nat} {l : List Int} (h : w.ownsRow B 3 1 (.slice (some ⟨g, 0, none⟩) n c) n (ints l)) {k : Nat} {x : Int} (hx : l[k]? = some x) : w.cell? ⟨g, k, none⟩ = some (.int .i64 x) := by
  obtain ⟨b, o, e, hc⟩ := (Cells.of_owns h).at_ (k := k) (by have := (List.getElem?_eq_some_iff.1 hx).1; simpa [ints] using this)
  cases e
  have := hc k (.int .i64 x) (by simp [ints, hx])
  rw [Nat.zero_add] at this
  exact this

theorem ints_len (l : List Int) : (ints l).length = l.length := by simp [ints]
theorem ints_app (a b : List Int) : ints (a ++ b) = ints a ++ ints b := by simp [ints]

set_option maxRecDepth 100000 in
set_option maxHeartbeats 16000000 in
theorem compactI_any (g c B : Nat) (l : List Int) (w : World) (hn : l.length ≤ 1000000) (h : w.ownsRow B 3 1 (.slice (some ⟨g, 0, none⟩) l.length c) l.length (ints l)) :
    Calls Tryz.prog 154 #[.slice (some ⟨g, 0, none⟩) l.length c] w fun e w' => e = .returned (.slice (some ⟨g, 0, none⟩) (compC 0 l l.length).length c) ∧ w'.ownsRow B 3 1 (.slice (some ⟨g, 0, none⟩) (compC 0 l l.length).length c) (compC 0 l l.length).length (ints (compC 0 l l.length)) ∧ w.grownBy w' (some g) := by
  have hcap : l.length ≤ c := by
    rcases h.2 with ⟨e, _⟩ | ⟨_, _, _, e, _, _, h1, _⟩
    · cases e
    · cases e; exact h1
  have hcm : c ≤ maxLen := by
    rcases h.2 with ⟨e, _⟩ | ⟨_, _, _, e, _, _, _, h1, _⟩
    · cases e
    · cases e; exact h1
  have hgB : B ≤ g := (h.lt g rfl).1
  unfold maxLen at hcm
  have HO := Lib.hid h
  by_cases h2 : l.length < 2
  · have hall : compC 0 l l.length = l := by
      match l, h2 with
      | [], _ => rfl
      | [a], _ => rfl
      | a :: b :: l, h2 => simp at h2; omega
    have HE := Lib.hid hall
    clear h hall
    go_enter Tryz.func154, Tryz.ntmps154
    go_wp2_with fail
    go_ret
    rw [HE.out]
    exact ⟨rfl, HO.out, World.grownBy.refl _ _⟩
  · clear h
    go_enter Tryz.func154, Tryz.ntmps154
    go_wp2_with fail
    go_loopw [3] (fun i wr => ∃ k : Nat, 1 ≤ k ∧ k ≤ l.length ∧ i = .int .i64 k ∧ compC 0 l k = l.take k ∧ wr.ownsRow B 3 1 (.slice (some ⟨g, 0, none⟩) l.length c) l.length (ints l) ∧ w.grownBy wr (some g))
      (fun i _ => l.length - (intOf i).toNat)
    case atStart => exact ⟨1, Nat.le_refl _, by omega, rfl, compC_one l (by omega), HO.out, World.grownBy.refl _ _⟩
    case round =>
      clear HO
      obtain ⟨k, hk1, hk, rfl, hco, hown, hgr⟩ := hrel
      have HCO := Lib.hid hco
      have HO := Lib.hid (fun m => show (wr.drewN m).ownsRow B 3 1 (.slice (some ⟨g, 0, none⟩) l.length c) l.length (ints l) from hown)
      have HG := Lib.hid (fun m => show w.grownBy (wr.drewN m) (some g) from ⟨hgr.os, hgr.tape, hgr.output, hgr.size, hgr.block⟩)
      by_cases hlt : k < l.length
      · have hx : l[k]? = some (l.getD k 0) := by simp [List.getD, hlt]
        have hy : l[k - 1]? = some (l.getD (k - 1) 0) := by simp [List.getD, show k - 1 < l.length by omega]
        have a0 := owns_int hown hx
        have b0 := owns_int hown hy
        have hkp : keepC 0 l k = !decide (l.getD k 0 = l.getD (k - 1) 0) := by
          unfold keepC
          rw [show (k == 0) = false from by rw [beq_eq_false_iff_ne]; omega, Bool.false_or]
        have q0 : (0 : Int) ≤ (k : Int) := by omega
        have q1 : (k : Int) < (l.length : Int) := by omega
        have q2 : (0 : Int) ≤ (k : Int) - 1 := by omega
        have q3 : (k : Int) - 1 < (l.length : Int) := by omega
        have q4 : ((k : Int) - 1).toNat = k - 1 := by omega
        clear hown hgr hco
        generalize hxe : l.getD k 0 = x at *
        generalize hye : l.getD (k - 1) 0 = y at *
        have HXE := Lib.hid hxe
        have HYE := Lib.hid hye
        clear hxe hye hx hy
        cases hd : decide (x = y)
        · have eqx : (x == y) = false := by rw [beq_eq_false_iff_ne]; simpa using hd
          rw [hd] at hkp
          have HN := Lib.hid (compC_take hk HCO.out hlt hkp)
          clear hkp hd
          go_wp2_with fail
          go_quiet (fail)
          go_wp2_with fail
          go_roundw
          case rel => exact ⟨k + 1, by omega, by omega, by go_num, HN.out, HO.out _, HG.out _⟩
          case measure => simp [intOf]; omega
        · have eqx : (x == y) = true := by rw [beq_iff_eq]; simpa using hd
          rw [hd] at hkp
          have HM := Lib.hid (mixC_start HCO.out hlt hkp)
          have HCL := Lib.hid (show (compC 0 l (k + 1)).length = k by rw [compC_no hkp, HCO.out, List.length_take]; omega)
          clear hkp hd
          have hkc : ¬ c = k := by omega
          have hkd : ¬ k = c := by omega
          have hke : ((k : Int) == (c : Int)) = false := by rw [beq_eq_false_iff_ne]; omega
          have b2' : (k : Int) ≤ (c : Int) := by omega
          go_wp2_with fail
          go_quiet (fail)
          go_wp2_with fail
          clear a0 b0
          go_loopw [3, 5] (fun s3 s5 wr => ∃ q : Nat, 1 ≤ q ∧ k + q ≤ l.length ∧ s5 = .int .i64 q ∧ s3 = .int .i64 (compC 0 l (k + q)).length ∧ (compC 0 l (k + q)).length + 1 ≤ k + q ∧ wr.ownsRow B 3 1 (.slice (some ⟨g, 0, none⟩) l.length c) l.length (ints (mixC 0 l (k + q))) ∧ w.grownBy wr (some g))
            (fun _ s5 _ => l.length - (intOf s5).toNat)
          case atStart => exact ⟨1, Nat.le_refl _, by omega, rfl, by rw [HCL.out], by rw [HCL.out]; omega, by rw [HM.out]; exact HO.out _, HG.out _⟩
          case round =>
            clear HO HG HM HCL eqx HXE HYE
            obtain ⟨q, hq1, hq, rfl, rfl, hle, hown, hgr⟩ := hrel
            have hml := mixC_len (z := (0 : Int)) (l := l) (m := k + q) hq
            by_cases hlt2 : k + q < l.length
            · have hst := compC_step (z := (0 : Int)) l (k + q)
              have hx : (mixC 0 l (k + q))[k + q]? = some (l.getD (k + q) 0) := by rw [mixC_at (by omega)]; simp [List.getD, hlt2]
              have hy : (mixC 0 l (k + q))[k + (q - 1)]? = some (l.getD (k + q - 1) 0) := by rw [mixC_at (by omega), show k + (q - 1) = k + q - 1 by omega]; simp [List.getD, show k + q - 1 < l.length by omega]
              have a0 := owns_int hown hx
              have b0 := owns_int hown hy
              have hkk : (compC 0 l (k + q)).length < (mixC 0 l (k + q)).length := by omega
              have o0 := owns_int hown (List.getElem?_eq_getElem hkk)
              have f0 := hown.frozenAt ((compC 0 l (k + q)).length)
              have hkp : keepC 0 l (k + q) = !decide (l.getD (k + q) 0 = l.getD (k + q - 1) 0) := by
                unfold keepC
                rw [show (k + q == 0) = false from by rw [beq_eq_false_iff_ne]; omega, Bool.false_or]
              have HYES := Lib.hid (fun h => mixC_yes (z := (0 : Int)) hlt2 h)
              have HNO := Lib.hid (fun h => mixC_no (z := (0 : Int)) (l := l) (m := k + q) h)
              have HSET := Lib.hid (fun (x : Int) => show (ints (mixC 0 l (k + q))).set (compC 0 l (k + q)).length (.int .i64 x) = ints ((mixC 0 l (k + q)).set (compC 0 l (k + q)).length x) from by simp [ints, List.map_set])
              have HO := Lib.hid (fun m => show (wr.drewN m).ownsRow B 3 1 (.slice (some ⟨g, 0, none⟩) l.length c) l.length (ints (mixC 0 l (k + q))) from hown)
              have HG := Lib.hid (fun m => show w.grownBy (wr.drewN m) (some g) from ⟨hgr.os, hgr.tape, hgr.output, hgr.size, hgr.block⟩)
              have HAS := Lib.hid (show k + (q + 1) = k + q + 1 from rfl)
              clear hown hgr hx hy hml
              generalize l.getD (k + q) 0 = x at *
              generalize l.getD (k + q - 1) 0 = y at *
              generalize (mixC 0 l (k + q))[(compC 0 l (k + q)).length] = old at *
              generalize hmx : mixC 0 l (k + q) = mx at *
              generalize hkk2 : (compC 0 l (k + q)).length = kk at *
              have HMX := Lib.hid hmx
              have HKK := Lib.hid hkk2
              clear hmx hkk2
              have q0 : (0 : Int) ≤ (q : Int) := by omega
              have q1 : (q : Int) < ((l.length - k : Nat) : Int) := by omega
              have q2 : (0 : Int) ≤ (q : Int) - 1 := by omega
              have q3 : (q : Int) - 1 < ((l.length - k : Nat) : Int) := by omega
              have q4 : ((q : Int) - 1).toNat = q - 1 := by omega
              have q5 : (0 : Int) ≤ (kk : Int) := by omega
              have q6 : (kk : Int) < (l.length : Int) := by omega
              cases hd : decide (x = y)
              · have eqx : (x != y) = true := by rw [bne_iff_ne]; simpa using hd
                rw [hd] at hkp
                have HY := Lib.hid (HYES.out hkp)
                rw [hkp, if_pos (show (!false) = true from rfl)] at hst
                have HST := Lib.hid hst
                have HOS := Lib.hid (fun m => ((HO.out m).stored kk (.int .i64 x)).1)
                have HGS := Lib.hid (fun m => show w.grownBy ((wr.drewN m).setCell ⟨g, kk, none⟩ (.int .i64 x)) (some g) from (HG.out m).trans (let hk := (Kept.refl (fun q => some g = some q) (wr.drewN m)).setCell (p := ⟨g, kk, none⟩) rfl (.int .i64 x); ⟨hk.os, hk.tape, hk.output, hk.size, fun j hj hne => hk.block j hj (fun e => hne e.symm)⟩))
                clear hkp hd hst
                go_wp2_with fail
                go_quiet (fail)
                go_wp2_with fail
                go_roundw
                case rel => exact ⟨q + 1, by omega, by omega, by go_num, by rw [HAS.out, HST.out]; go_num, by rw [HAS.out, HST.out]; omega, by rw [HAS.out, ← HY.out, ← HSET.out]; exact HOS.out _, HGS.out _⟩
                case measure => simp [intOf]; omega
              · have eqx : (x != y) = false := by have : x = y := by simpa using hd
                                                  rw [this, bne_self_eq_false]
                rw [hd] at hkp
                have HY := Lib.hid (HNO.out hkp)
                rw [hkp, if_neg (show ¬ (!true) = true from Bool.false_ne_true)] at hst
                have HST := Lib.hid hst
                clear hkp hd hst
                go_wp2_with fail
                go_quiet (fail)
                go_wp2_with fail
                go_roundw
                case rel => exact ⟨q + 1, by omega, by omega, by go_num, by rw [HAS.out, HST.out]; go_num, by rw [HAS.out, HST.out]; omega, by rw [HAS.out, HY.out]; exact HO.out _, HG.out _⟩
                case measure => simp [intOf]; omega
            · have hend : k + q = l.length := by omega
              rw [hend] at hle hown hml
              rw [hend]
              have hkk : (compC 0 l l.length).length < l.length := by omega
              have htk := mixC_take (z := (0 : Int)) (l := l) (m := l.length)
              have hcell : ∀ j, j < (l.length - (compC 0 l l.length).length) → (wr.cell? ⟨g, (compC 0 l l.length).length + j, none⟩).isSome = true := fun j hj => by
                have := hown.cellAt ((compC 0 l l.length).length + j) (by omega)
                rw [this]
                have hl3 : (ints (mixC 0 l l.length)).length = l.length := by rw [ints_len, hml]
                rw [List.getElem?_eq_getElem (by omega)]
                rfl
              have hcl : ∀ ty, (Builtin.clear_ #[30] ty #[.slice (some ⟨g, (compC 0 l l.length).length, none⟩) (l.length - (compC 0 l l.length).length) (c - (compC 0 l l.length).length)]).run Tryz.prog wr = .ok (.tuple #[]) (wr.setCells g ((compC 0 l l.length).length) (Builtin.zeroCells (Value.int .i64 0).cells (l.length - (compC 0 l l.length).length)).toList) := fun ty =>
                run_clear_rows wr _ _ ty _ 1 Tryz.underlying30 Tryz.zeroValue3 rfl (fun v hv => by simp [Value.cells] at hv; subst hv; rfl) g _ _ _ (by omega) (by omega) (fun j hj => hcell j (by omega)) (fun j hj => hown.frozenAt _)
              have ho2 := owns_take (owns_setCells (Builtin.zeroCells (Value.int .i64 0).cells (l.length - (compC 0 l l.length).length)).toList wr ((compC 0 l l.length).length) _ hown) (k := (compC 0 l l.length).length) (by omega)
              have htk3 : (ints (mixC 0 l l.length)).take ((compC 0 l l.length).length) = ints (compC 0 l l.length) := by
                have e : mixC 0 l l.length = compC 0 l l.length ++ (mixC 0 l l.length).drop (compC 0 l l.length).length := by
                  conv => lhs; rw [← List.take_append_drop (compC 0 l l.length).length (mixC 0 l l.length), htk]
                rw [e, ints_app, List.take_append_of_le_length (by rw [ints_len]; omega), List.take_of_length_le (by rw [ints_len]; omega)]
              rw [Nat.mul_one, setL_take _ _ _ _ (Nat.le_refl _), htk3] at ho2
              have HO2 := Lib.hid ho2
              have hk2 := kept_setCells (S := fun q => some g = some q) (g := g) rfl (Builtin.zeroCells (Value.int .i64 0).cells (l.length - (compC 0 l l.length).length)).toList wr wr ((compC 0 l l.length).length) (Kept.refl _ _)
              have HG2 := Lib.hid (hgr.trans ⟨hk2.os, hk2.tape, hk2.output, hk2.size, fun j hj hne => hk2.block j hj (fun e => hne e.symm)⟩)
              clear htk hcell ho2 htk3 hk2 hown hgr hml
              generalize (Builtin.zeroCells (Value.int .i64 0).cells (l.length - (compC 0 l l.length).length)).toList = zs at *
              generalize hkk2 : (compC 0 l l.length).length = kk at *
              have HKK := Lib.hid hkk2
              clear hkk2 hke hkc hkd
              have hkc : ¬ c = kk := by omega
              have hkd : ¬ kk = c := by omega
              have hke : ((kk : Int) == (c : Int)) = false := by rw [beq_eq_false_iff_ne]; omega
              have q5 : (0 : Int) ≤ (kk : Int) := by omega
              have q6 : (kk : Int) ≤ (c : Int) := by omega
              have q7 : (kk : Int) ≤ (l.length : Int) := by omega
              have q8 : ¬ ((q : Int) < ((l.length - k : Nat) : Int)) := by omega
              go_wp2_with fail
              go_ret
              refine ⟨?_, ?_, HG2.out⟩
              · rw [HKK.out]; rfl
              · rw [HKK.out]; exact HO2.out
      · obtain rfl : k = l.length := by omega
        rw [List.take_length] at hco
        have HCO := Lib.hid hco
        clear hco hown hgr
        go_wp2_with fail
        go_ret
        rw [HCO.out]
        exact ⟨rfl, HO.out 0, HG.out 0⟩

end Go.Proofs.YtdgnhfhaaghoaaaGreatDoor
