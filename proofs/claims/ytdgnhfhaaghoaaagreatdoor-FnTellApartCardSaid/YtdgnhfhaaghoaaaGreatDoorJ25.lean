/- Formulas as trees. Plain law: what a formula in a list tells of the states, and that the formula that tells apart does so. Labelled systems: the formula that tells two states apart is one, the first state satisfies it, and the second one does not. Plain law. A region that draws its order, by what holds while it is under way: each operation is shown once, whatever came before it. No program is in sight. -/
import Derived.Test.YtdgnhfhaaghoaaaGreatDoorJ24
import Derived.Test.YtdgnhfhaaghoaaaGreatDoorJ20
import Derived.RegionTactic
import Derived.WalkKit
import Derived.NoCompiler
set_option linter.unusedSimpArgs false
set_option linter.unusedVariables false
namespace Go.Proofs.YtdgnhfhaaghoaaaGreatDoor

inductive Fo where
  | tt : Fo
  | mk : Nat → Fo
  | no : Fo → Fo
  | an : Fo → Fo → Fo
  | ca : Nat → Fo → Fo

def Fo.code : Fo → List Int
  | .tt => [0]
  | .mk m => [1, (m : Int)]
  | .no a => 2 :: a.code
  | .an a b => 3 :: (a.code ++ b.code)
  | .ca x a => 4 :: (x : Int) :: a.code
/-- Marks and actions are in range. -/
def Fo.ok : Fo → Prop
  | .tt => True
  | .mk m => m < 8
  | .no a => a.ok
  | .an a b => a.ok ∧ b.ok
  | .ca x a => x < 8 ∧ a.ok
def Fo.sat (l : Lab) : Fo → Nat → Bool
  | .tt, _ => true
  | .mk m, i => hasI (l.shows.getD i []) (m : Int)
  | .no a, i => !a.sat l i
  | .an a b, i => a.sat l i && b.sat l i
  | .ca x a, i => l.steps.any fun s => (s.1 == (i : Int)) && (s.2.1 == (x : Int)) && a.sat l s.2.2.toNat
def Fo.rows (l : Lab) (a : Fo) : List Bool := (List.range l.shows.length).map (a.sat l)

theorem at_pre {pre g post : List Int} {j : Nat} (h : j < g.length) : (pre ++ (g ++ post)).getD (pre.length + j) 0 = g.getD j 0 := by
  simp [List.getD, List.getElem?_append_right, List.getElem?_append_left h]
theorem rows_at {l : Lab} {a : Fo} {i : Nat} (h : i < l.shows.length) : (a.rows l).getD i false = a.sat l i := by
  simp [Fo.rows, List.getD, h]

/-- The end of a formula that stands in a list, and its states. -/
theorem end_code : ∀ (a : Fo), a.ok → ∀ (pre post : List Int) (n : Nat), a.code.length ≤ n → fEnd n (pre ++ (a.code ++ post)) (pre.length : Int) = ((pre.length + a.code.length : Nat) : Int)
  | .tt, _, pre, post, n + 1, _ => by
    have h0 := at_pre (pre := pre) (g := Fo.tt.code) (post := post) (j := 0) (by simp [Fo.code])
    rw [Nat.add_zero] at h0
    unfold fEnd
    rw [if_neg (by simp [Fo.code]; omega), Int.toNat_natCast, h0]
    simp [Fo.code]
  | .mk m, hm, pre, post, n + 1, _ => by
    have hm : m < 8 := hm
    have h0 := at_pre (pre := pre) (g := (Fo.mk m).code) (post := post) (j := 0) (by simp [Fo.code])
    have h1 := at_pre (pre := pre) (g := (Fo.mk m).code) (post := post) (j := 1) (by simp [Fo.code])
    rw [Nat.add_zero] at h0
    have e1 : ((pre.length : Int) + 1).toNat = pre.length + 1 := by omega
    have hl : (pre ++ ((Fo.mk m).code ++ post)).length = pre.length + (2 + post.length) := by simp [Fo.code]; omega
    unfold fEnd
    rw [if_neg (by rw [hl]; omega), Int.toNat_natCast, h0, e1, h1, hl]
    simp [Fo.code, inB]
    omega
  | .no a, ha, pre, post, n + 1, hn => by
    have h0 := at_pre (pre := pre) (g := (Fo.no a).code) (post := post) (j := 0) (by simp [Fo.code])
    rw [Nat.add_zero] at h0
    have hl : (pre ++ ((Fo.no a).code ++ post)).length = pre.length + (1 + a.code.length + post.length) := by simp [Fo.code]; omega
    have ih := end_code a ha (pre ++ [2]) post n (by simp [Fo.code] at hn; omega)
    have e : (pre ++ [2]) ++ (a.code ++ post) = pre ++ ((Fo.no a).code ++ post) := by simp [Fo.code]
    rw [e] at ih
    unfold fEnd
    rw [if_neg (by rw [hl]; omega), Int.toNat_natCast, h0]
    have e2 : ((pre ++ [2]).length : Int) = (pre.length : Int) + 1 := by simp
    rw [e2] at ih
    show (if (2 : Int) == 0 then _ else if (2 : Int) == 1 then _ else if (2 : Int) == 2 then fEnd n (pre ++ ((Fo.no a).code ++ post)) ((pre.length : Int) + 1) else _) = _
    rw [ih]
    simp [Fo.code]
    omega
  | .an a b, hab, pre, post, n + 1, hn => by
    have h0 := at_pre (pre := pre) (g := (Fo.an a b).code) (post := post) (j := 0) (by simp [Fo.code])
    rw [Nat.add_zero] at h0
    have hl : (pre ++ ((Fo.an a b).code ++ post)).length = pre.length + (1 + a.code.length + b.code.length + post.length) := by simp [Fo.code]; omega
    have iha := end_code a hab.1 (pre ++ [3]) (b.code ++ post) n (by simp [Fo.code] at hn; omega)
    have ihb := end_code b hab.2 (pre ++ 3 :: a.code) post n (by simp [Fo.code] at hn; omega)
    have e : (pre ++ [3]) ++ (a.code ++ (b.code ++ post)) = pre ++ ((Fo.an a b).code ++ post) := by simp [Fo.code]
    have e' : (pre ++ 3 :: a.code) ++ (b.code ++ post) = pre ++ ((Fo.an a b).code ++ post) := by simp [Fo.code]
    rw [e] at iha
    rw [e'] at ihb
    have e2 : ((pre ++ [3]).length : Int) = (pre.length : Int) + 1 := by simp
    have e3 : (((pre ++ [3]).length + a.code.length : Nat) : Int) = ((pre ++ 3 :: a.code).length : Int) := by simp; omega
    rw [e2, e3] at iha
    unfold fEnd
    rw [if_neg (by rw [hl]; omega), Int.toNat_natCast, h0]
    show (if (3 : Int) == 0 then _ else if (3 : Int) == 1 then _ else if (3 : Int) == 2 then _ else if (3 : Int) == 3 then fEnd n (pre ++ ((Fo.an a b).code ++ post)) (fEnd n (pre ++ ((Fo.an a b).code ++ post)) ((pre.length : Int) + 1)) else _) = _
    rw [iha, ihb]
    simp [Fo.code]
    omega
  | .ca x a, hxa, pre, post, n + 1, hn => by
    have hx : x < 8 := hxa.1
    have h0 := at_pre (pre := pre) (g := (Fo.ca x a).code) (post := post) (j := 0) (by simp [Fo.code])
    have h1 := at_pre (pre := pre) (g := (Fo.ca x a).code) (post := post) (j := 1) (by simp [Fo.code])
    rw [Nat.add_zero] at h0
    have hl : (pre ++ ((Fo.ca x a).code ++ post)).length = pre.length + (2 + a.code.length + post.length) := by simp [Fo.code]; omega
    have e1 : ((pre.length : Int) + 1).toNat = pre.length + 1 := by omega
    have ih := end_code a hxa.2 (pre ++ [4, (x : Int)]) post n (by simp [Fo.code] at hn; omega)
    have e : (pre ++ [4, (x : Int)]) ++ (a.code ++ post) = pre ++ ((Fo.ca x a).code ++ post) := by simp [Fo.code]
    rw [e] at ih
    have e2 : ((pre ++ [4, (x : Int)]).length : Int) = (pre.length : Int) + 2 := by simp
    rw [e2] at ih
    unfold fEnd
    rw [if_neg (by rw [hl]; omega), Int.toNat_natCast, h0, e1, h1]
    have hb : (decide ((pre.length : Int) + 1 < ((pre ++ ((Fo.ca x a).code ++ post)).length : Int)) && inB ((Fo.ca x a).code.getD 1 0) 0 7) = true := by
      rw [hl]
      simp [Fo.code, inB]
      omega
    rw [hb, ih]
    simp [Fo.code]
    omega
  | .tt, _, _, _, 0, h | .mk _, _, _, _, 0, h | .no _, _, _, _, 0, h | .an _ _, _, _, _, 0, h | .ca _ _, _, _, _, 0, h => by simp [Fo.code] at h

theorem row_ext {a b : List Bool} (h : a.length = b.length) (he : ∀ i, i < a.length → a.getD i false = b.getD i false) : a = b := by
  apply List.ext_getElem h
  intro i h1 h2
  have := he i h1
  simpa [List.getD, h1, h2] using this
theorem sat_code (l : Lab) (hst : ∀ s ∈ l.steps, ∃ j : Nat, s.2.2 = (j : Int) ∧ j < l.shows.length) : ∀ (a : Fo), a.ok → ∀ (pre post : List Int) (n : Nat), a.code.length ≤ n → satB l (pre ++ (a.code ++ post)) n (pre.length : Int) = a.rows l
  | .tt, _, pre, post, n + 1, _ => by
    have h0 := at_pre (pre := pre) (g := Fo.tt.code) (post := post) (j := 0) (by simp [Fo.code])
    rw [Nat.add_zero] at h0
    rw [satB, Int.toNat_natCast, h0]
    show l.shows.map (fun _ => true) = _
    refine row_ext (by simp [Fo.rows]) fun i hi => ?_
    have hi : i < l.shows.length := by simpa using hi
    rw [rows_at hi]
    simp [List.getD, hi, Fo.sat]
  | .mk m, _, pre, post, n + 1, _ => by
    have h0 := at_pre (pre := pre) (g := (Fo.mk m).code) (post := post) (j := 0) (by simp [Fo.code])
    have h1 := at_pre (pre := pre) (g := (Fo.mk m).code) (post := post) (j := 1) (by simp [Fo.code])
    rw [Nat.add_zero] at h0
    have e1 : ((pre.length : Int) + 1).toNat = pre.length + 1 := by omega
    rw [satB, Int.toNat_natCast, h0, e1, h1]
    show l.shows.map (fun x => hasI x (m : Int)) = _
    refine row_ext (by simp [Fo.rows]) fun i hi => ?_
    have hi : i < l.shows.length := by simpa using hi
    rw [rows_at hi]
    simp [List.getD, hi, Fo.sat]
  | .no a, ha, pre, post, n + 1, hn => by
    have h0 := at_pre (pre := pre) (g := (Fo.no a).code) (post := post) (j := 0) (by simp [Fo.code])
    rw [Nat.add_zero] at h0
    have ih := sat_code l hst a ha (pre ++ [2]) post n (by simp [Fo.code] at hn; omega)
    have e : (pre ++ [2]) ++ (a.code ++ post) = pre ++ ((Fo.no a).code ++ post) := by simp [Fo.code]
    have e2 : ((pre ++ [2]).length : Int) = (pre.length : Int) + 1 := by simp
    rw [e, e2] at ih
    rw [satB, Int.toNat_natCast, h0]
    show (satB l (pre ++ ((Fo.no a).code ++ post)) n ((pre.length : Int) + 1)).map (!·) = _
    rw [ih]
    simp [Fo.rows, Fo.sat]
  | .an a b, hab, pre, post, n + 1, hn => by
    have h0 := at_pre (pre := pre) (g := (Fo.an a b).code) (post := post) (j := 0) (by simp [Fo.code])
    rw [Nat.add_zero] at h0
    have hla : a.code.length ≤ n := by simp [Fo.code] at hn; omega
    have hlb : b.code.length ≤ n := by simp [Fo.code] at hn; omega
    have iha := sat_code l hst a hab.1 (pre ++ [3]) (b.code ++ post) n hla
    have ihe := end_code a hab.1 (pre ++ [3]) (b.code ++ post) n hla
    have ihb := sat_code l hst b hab.2 (pre ++ 3 :: a.code) post n hlb
    have e : (pre ++ [3]) ++ (a.code ++ (b.code ++ post)) = pre ++ ((Fo.an a b).code ++ post) := by simp [Fo.code]
    have e' : (pre ++ 3 :: a.code) ++ (b.code ++ post) = pre ++ ((Fo.an a b).code ++ post) := by simp [Fo.code]
    have e2 : ((pre ++ [3]).length : Int) = (pre.length : Int) + 1 := by simp
    have e3 : (((pre ++ [3]).length + a.code.length : Nat) : Int) = ((pre ++ 3 :: a.code).length : Int) := by simp; omega
    rw [e, e2] at iha
    rw [e, e2, e3] at ihe
    rw [e'] at ihb
    rw [satB, Int.toNat_natCast, h0]
    show List.zipWith (· && ·) (satB l (pre ++ ((Fo.an a b).code ++ post)) n ((pre.length : Int) + 1)) (satB l (pre ++ ((Fo.an a b).code ++ post)) n (fEnd n (pre ++ ((Fo.an a b).code ++ post)) ((pre.length : Int) + 1))) = _
    rw [iha, ihe, ihb]
    refine row_ext (by simp [Fo.rows]) fun i hi => ?_
    have hi : i < l.shows.length := by simpa [Fo.rows] using hi
    rw [rows_at hi]
    simp [List.getD, Fo.rows, hi, Fo.sat]
  | .ca x a, hxa, pre, post, n + 1, hn => by
    have h0 := at_pre (pre := pre) (g := (Fo.ca x a).code) (post := post) (j := 0) (by simp [Fo.code])
    have h1 := at_pre (pre := pre) (g := (Fo.ca x a).code) (post := post) (j := 1) (by simp [Fo.code])
    rw [Nat.add_zero] at h0
    have e1 : ((pre.length : Int) + 1).toNat = pre.length + 1 := by omega
    have ih := sat_code l hst a hxa.2 (pre ++ [4, (x : Int)]) post n (by simp [Fo.code] at hn; omega)
    have e : (pre ++ [4, (x : Int)]) ++ (a.code ++ post) = pre ++ ((Fo.ca x a).code ++ post) := by simp [Fo.code]
    have e2 : ((pre ++ [4, (x : Int)]).length : Int) = (pre.length : Int) + 2 := by simp
    rw [e, e2] at ih
    rw [satB, Int.toNat_natCast, h0, e1, h1]
    show (List.range l.shows.length).map (canB l (x : Int) (satB l (pre ++ ((Fo.ca x a).code ++ post)) n ((pre.length : Int) + 2))) = _
    rw [ih]
    refine row_ext (by simp [Fo.rows]) fun i hi => ?_
    have hi : i < l.shows.length := by simpa using hi
    rw [rows_at hi]
    simp only [List.getD, List.getElem?_map, List.getElem?_range hi, Option.map_some, Option.getD_some, canB, Fo.sat]
    rw [Bool.eq_iff_iff, List.any_eq_true, List.any_eq_true]
    have hrow : ∀ s ∈ l.steps, (a.rows l).getD s.2.2.toNat false = a.sat l s.2.2.toNat := by
      intro s hs
      obtain ⟨j, hj, hjn⟩ := hst s hs
      rw [hj, Int.toNat_natCast]
      exact rows_at hjn
    constructor
    · rintro ⟨s, hs, h⟩
      exact ⟨s, hs, by rw [← hrow s hs]; simpa [List.getD] using h⟩
    · rintro ⟨s, hs, h⟩
      exact ⟨s, hs, by rw [← hrow s hs] at h; simpa [List.getD] using h⟩
  | .tt, _, _, _, 0, h | .mk _, _, _, _, 0, h | .no _, _, _, _, 0, h | .an _ _, _, _, _, 0, h | .ca _ _, _, _, _, 0, h => by simp [Fo.code] at h

end Go.Proofs.YtdgnhfhaaghoaaaGreatDoor

set_option linter.unusedVariables false
namespace Go.Proofs.YtdgnhfhaaghoaaaGreatDoor

/-- What a well-formed labelled system gives. -/
structure GoodL (l : Lab) : Prop where
  some_ : 1 ≤ l.shows.length
  steps : ∀ s ∈ l.steps, ∃ i j : Nat, s.1 = (i : Int) ∧ s.2.2 = (j : Int) ∧ i < l.shows.length ∧ j < l.shows.length
  acts : ∀ s ∈ l.steps, 0 ≤ s.2.1 ∧ s.2.1 < 8
  marks : ∀ i, i < l.shows.length → (l.shows.getD i []).Pairwise (· < ·) ∧ ∀ x ∈ l.shows.getD i [], 0 ≤ x ∧ x < 8

theorem diff_some {a b : List Int} (ha : a.Pairwise (· < ·) ∧ ∀ x ∈ a, 0 ≤ x ∧ x < 8) (hb : b.Pairwise (· < ·) ∧ ∀ x ∈ b, 0 ≤ x ∧ x < 8) (h : a ≠ b) : ∃ m, diffM a b = some m ∧ m < 8 ∧ hasM a m ≠ hasM b m := by
  cases hd : diffM a b with
  | some m =>
    obtain ⟨h1, h2, _⟩ := find_range hd
    exact ⟨m, rfl, h1, by simpa using h2⟩
  | none =>
    exfalso
    apply h
    unfold diffM at hd
    rw [List.find?_eq_none] at hd
    have hall : ∀ m, m < 8 → hasM a m = hasM b m := fun m hm => by
      have := hd m (List.mem_range.2 hm)
      simpa using this
    refine sorted_eqR (R := fun (x y : Int) => x < y) (fun x y h => by omega) ha.1 hb.1 fun x => ?_
    have hx : ∀ c : List Int, ∀ y : Int, y ∈ c ↔ c.contains y = true := fun c y => by rw [List.contains_iff_mem]
    constructor
    · intro h1
      have h2 := ha.2 x h1
      obtain ⟨m, rfl⟩ := Int.eq_ofNat_of_zero_le h2.1
      have := hall m (by omega)
      unfold hasM at this
      rw [hx] at h1 ⊢
      rw [← this]; exact h1
    · intro h1
      have h2 := hb.2 x h1
      obtain ⟨m, rfl⟩ := Int.eq_ofNat_of_zero_le h2.1
      have := hall m (by omega)
      unfold hasM at this
      rw [hx] at h1 ⊢
      rw [this]; exact h1

theorem chk_some {f g : List Int} (h : chkF f = some g) : g = f ∧ f.length ≤ 200 := by
  unfold chkF at h
  split at h
  · rename_i hl; injection h with h; exact ⟨h.symm, hl⟩
  · cases h

/-- A conjunction of trees: true at u, false at each of others. -/
theorem all_tree (l : Lab) (u : Nat) (ap : Int → Option (List Int)) : ∀ (os : List Int), (∀ o ∈ os, ∀ g, ap o = some g → ∃ a : Fo, g = a.code ∧ a.ok ∧ a.sat l u = true ∧ a.sat l o.toNat = false) →
    ∀ g, allP ap os = some g → ∃ a : Fo, g = a.code ∧ a.ok ∧ a.sat l u = true ∧ ∀ o ∈ os, a.sat l o.toNat = false
  | [], _, g, h => by
    simp [allP] at h
    exact ⟨.tt, h.symm, trivial, rfl, fun o ho => by simp at ho⟩
  | [o], hap, g, h => by
    obtain ⟨a, h1, h2, h3, h4⟩ := hap o (by simp) g h
    exact ⟨a, h1, h2, h3, fun p hp => by simp at hp; rw [hp]; exact h4⟩
  | o :: p :: os, hap, g, h => by
    rw [allP] at h
    split at h
    · cases h
    · rename_i a ha
      split at h
      · cases h
      · rename_i r hr
        obtain ⟨A, a1, a2, a3, a4⟩ := hap o (by simp) a ha
        obtain ⟨B, b1, b2, b3, b4⟩ := all_tree l u ap (p :: os) (fun q hq => hap q (List.mem_cons_of_mem _ hq)) r hr
        obtain ⟨e, _⟩ := chk_some h
        refine ⟨.an A B, by rw [e, a1, b1]; rfl, ⟨a2, b2⟩, by simp [Fo.sat, a3, b3], fun q hq => ?_⟩
        rcases List.mem_cons.1 hq with rfl | hq
        · simp [Fo.sat, a4]
        · simp [Fo.sat, b4 q hq]

theorem apart_tree (l : Lab) (hl : GoodL l) : ∀ (f s t : Nat), s < l.shows.length → t < l.shows.length → ∀ g, apart l f s t = some g → g.length ≤ 200 ∧ ∃ a : Fo, g = a.code ∧ a.ok ∧ a.sat l s = true ∧ a.sat l t = false
  | 0, _, _, _, _, g, h => by cases h
  | f + 1, s, t, hs, ht, g, h => by
    rw [apart] at h
    split at h
    · cases h
    · rename_i hr
      obtain ⟨h1, _, _⟩ := round_some hr
      have hne : l.shows.getD s [] ≠ l.shows.getD t [] := by
        intro e
        apply h1
        rw [parts_iff l 0 hs ht]
        show showB l s t = true
        simp only [showB, beq_iff_eq]
        exact e
      obtain ⟨m, m1, m2, m3⟩ := diff_some (hl.marks s hs) (hl.marks t ht) hne
      injection h with h
      unfold markF at h
      rw [m1] at h
      dsimp only at h
      split at h
      · rename_i hm
        have hm' : hasM (l.shows.getD t []) m = false := by rw [hm] at m3; simpa using m3.symm
        refine ⟨by rw [← h]; simp, .mk m, h.symm, m2, ?_, ?_⟩
        · exact hm
        · exact hm'
      · rename_i hm
        have hm0 : hasM (l.shows.getD s []) m = false := by simpa using hm
        have hm' : hasM (l.shows.getD t []) m = true := by rw [hm0] at m3; simpa using m3.symm
        refine ⟨by rw [← h]; simp, .no (.mk m), h.symm, m2, ?_, ?_⟩
        · show (!hasM (l.shows.getD s []) m) = true
          rw [hm0]; rfl
        · show (!hasM (l.shows.getD t []) m) = false
          rw [hm']; rfl
    · rename_i m hr
      split at h
      · cases ha : apart l f t s with
        | none => rw [ha] at h; cases h
        | some a =>
          rw [ha] at h
          obtain ⟨e, hlen⟩ := chk_some (show chkF (2 :: a) = some g from h)
          obtain ⟨_, A, a1, a2, a3, a4⟩ := apart_tree l hl f t s ht hs a ha
          refine ⟨by rw [e]; exact hlen, .no A, by rw [e, a1]; rfl, a2, ?_, ?_⟩
          · show (!A.sat l s) = true
            rw [a4]; rfl
          · show (!A.sat l t) = false
            rw [a3]; rfl
      · rename_i x hx
        obtain ⟨x1, x2, _⟩ := lonely_some hx
        obtain ⟨i, j, hi, hj, hin, hjn⟩ := hl.steps x x1
        have hj' : x.2.2.toNat = j := by omega
        cases ha : allP (fun o => apart l f x.2.2.toNat o.toNat) (nextA l.steps (t : Int) x.2.1) with
        | none => rw [ha] at h; cases h
        | some a =>
          rw [ha] at h
          obtain ⟨e, hlen⟩ := chk_some (show chkF (4 :: x.2.1 :: a) = some g from h)
          obtain ⟨A, a1, a2, a3, a4⟩ := all_tree l x.2.2.toNat _ _ (fun o ho g' hg' => by
            unfold nextA at ho
            obtain ⟨y, hy, rfl⟩ := List.mem_map.1 ho
            obtain ⟨p, q, hp, hq, hpn, hqn⟩ := hl.steps y (List.mem_filter.1 hy).1
            exact (apart_tree l hl f x.2.2.toNat y.2.2.toNat (by omega) (by omega) g' hg').2) a ha
          have hx8 := hl.acts x x1
          obtain ⟨c, hc⟩ := Int.eq_ofNat_of_zero_le hx8.1
          refine ⟨by rw [e]; exact hlen, .ca c A, by rw [e, a1, hc]; rfl, ⟨by omega, a2⟩, ?_, ?_⟩
          · unfold Fo.sat
            rw [List.any_eq_true]
            refine ⟨x, x1, ?_⟩
            rw [a3, x2, hc]
            simp
          · unfold Fo.sat
            rw [Bool.eq_false_iff]
            intro hany
            rw [List.any_eq_true] at hany
            obtain ⟨y, hy, he⟩ := hany
            simp only [Bool.and_eq_true, beq_iff_eq] at he
            have hmem : y.2.2 ∈ nextA l.steps (t : Int) x.2.1 := by
              unfold nextA
              exact List.mem_map.2 ⟨y, List.mem_filter.2 ⟨hy, by simp [he.1.1, he.1.2, hc]⟩, rfl⟩
            rw [a4 _ hmem] at he
            exact absurd he.2 (by decide)

end Go.Proofs.YtdgnhfhaaghoaaaGreatDoor

set_option linter.unusedVariables false
namespace Go.Proofs.YtdgnhfhaaghoaaaGreatDoor
open Go.RowKit

/-- One operation more has come up. -/
def upd (L : Nat → Bool) (i : Nat) : Nat → Bool := fun j => if j = i then true else L j
theorem count_set {l : List Bool} {i : Nat} (h : l[i]? = some false) : (l.set i true).count false + 1 = l.count false := by
  induction l generalizing i with
  | nil => simp at h
  | cons a l ih =>
    cases i with
    | zero =>
      simp at h
      subst h
      simp [List.count_cons]
    | succ i =>
      have := ih (by simpa using h)
      simp only [List.set_cons_succ, List.count_cons]
      omega

/-- A slot's value: the new one if its operation has come up. -/
def bsel {α : Type} (b : Bool) (x y : α) : α := if b then x else y
theorem bsel_t {α : Type} (x y : α) : bsel true x y = x := rfl

section
variable {P : Program} {md : Region.Mode} {ops : Array Oper} {Q : Exit → Act → World → Prop}

theorem wpAny_inv (J : (Nat → Bool) → Act → World → Prop)
    (step : ∀ (L : Nat → Bool) (a : Act) (w : World) (i : Nat) (o : Oper), J L a w → L i = false → ops[i]? = some o → (∀ e ∈ o.after, Region.binds md e = true → L e.on = true) →
      ∀ K' : Act → World → Prop, (∀ a' w', J (upd L i) a' w' → K' a' w') → if Region.wanted o (yielded ops a.tmps) = true then Oper.wp P o a w K' Q else K' (a.put o.dst undef) w)
    (fin : ∀ (L : Nat → Bool) (a : Act) (w : World), J L a w → (∀ i o, ops[i]? = some o → L i = false → ∃ e ∈ o.after, Region.binds md e = true ∧ L e.on = false) → Q .normal a w) :
    ∀ (fuel : Nat) (listed : Array Bool) (a : Act) (w : World), listed.size = ops.size → listed.toList.count false ≤ fuel → J (fun i => listed.getD i false) a w → wpAny P md ops Q fuel listed a w := by
  have hfin : ∀ (listed : Array Bool) (a : Act) (w : World), listed.size = ops.size → J (fun i => listed.getD i false) a w → Region.ready md ops listed = [] → Q .normal a w := fun listed a w hs hJ hr => by
    refine fin _ a w hJ fun i o ho hi => ?_
    have hil : i < listed.size := by rw [hs]; exact (Array.getElem?_eq_some_iff.1 ho).1
    refine Classical.byContradiction fun hn => ?_
    have hm : i ∈ Region.ready md ops listed := mem_ready.2 ⟨by simpa [hil] using hi, o, ho, fun e he hb => by
      cases hx : listed.getD e.on false
      · exact absurd ⟨e, he, hb, hx⟩ hn
      · rfl⟩
    rw [hr] at hm
    cases hm
  intro fuel
  induction fuel with
  | zero =>
    intro listed a w hs hc hJ
    have hr : Region.ready md ops listed = [] := by
      rw [List.eq_nil_iff_forall_not_mem]
      intro i hi
      obtain ⟨h1, o, ho, _⟩ := mem_ready.1 hi
      have hil : i < listed.size := by rw [hs]; exact (Array.getElem?_eq_some_iff.1 ho).1
      have h2 : listed[i] = false := by simpa [hil] using h1
      have : false ∈ listed.toList := by rw [← h2]; simp
      have := List.count_pos_iff.2 this
      omega
    exact ⟨hr, hfin listed a w hs hJ hr⟩
  | succ fuel ih =>
    intro listed a w hs hc hJ
    refine ⟨hfin listed a w hs hJ, fun i hi => ?_⟩
    obtain ⟨h1, o, ho, hd⟩ := mem_ready.1 hi
    have hil : i < listed.size := by rw [hs]; exact (Array.getElem?_eq_some_iff.1 ho).1
    have h2 : listed[i] = false := by simpa [hil] using h1
    refine wpOp_step ho fun K' hK => step _ a w i o hJ (by simpa [hil] using h2) ho hd K' fun a' w' hJ' => hK a' w' (ih _ a' w' (by simpa using hs) ?_ ?_)
    · rw [Array.toList_setIfInBounds]
      have := count_set (l := listed.toList) (i := i) (by rw [Array.getElem?_toList, Array.getElem?_eq_getElem hil, h2])
      omega
    · have e : (fun j => (listed.setIfInBounds i true).getD j false) = upd (fun j => listed.getD j false) i := by
        funext j
        unfold upd
        by_cases hj : j = i
        · subst hj
          simp [hil]
        · rw [if_neg hj]
          simp [Array.getD_eq_getD_getElem?, Array.getElem?_setIfInBounds, Ne.symm hj]
      rw [e]
      exact hJ'

/-- The region as a whole. -/
theorem wp_region_inv {id : Nat} {a : Act} {w : World} (hm : P.follows .mixedOrders = true) (J : (Nat → Bool) → Act → World → Prop) (h0 : J (fun _ => false) a w.drew)
    (step : ∀ (L : Nat → Bool) (a : Act) (w : World) (i : Nat) (o : Oper), J L a w → L i = false → ops[i]? = some o → (∀ e ∈ o.after, Region.binds .any e = true → L e.on = true) →
      ∀ K' : Act → World → Prop, (∀ a' w', J (upd L i) a' w' → K' a' w') → if Region.wanted o (yielded ops a.tmps) = true then Oper.wp P o a w K' Q else K' (a.put o.dst undef) w)
    (fin : ∀ (L : Nat → Bool) (a : Act) (w : World), J L a w → (∀ i o, ops[i]? = some o → L i = false → ∃ e ∈ o.after, Region.binds .any e = true ∧ L e.on = false) → Q .normal a w) :
    (Code.region id ops true).wp P Q a w := by
  refine wp_region_any hm (wpAny_inv J step fin ops.size _ a _ (by simp) ?_ ?_)
  · have h : (Array.replicate ops.size false).toList.count false ≤ (Array.replicate ops.size false).toList.length := List.count_le_length
    rw [Array.length_toList, Array.size_replicate] at h
    exact h
  · have e : (fun i => (Array.replicate ops.size false).getD i false) = fun _ => false := by
      funext i
      simp [Array.getD_eq_getD_getElem?, Array.getElem?_replicate]
      split <;> rfl
    rw [e]
    exact h0

end

end Go.Proofs.YtdgnhfhaaghoaaaGreatDoor
