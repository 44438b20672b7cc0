/- Formulas as trees. Plain law: what a formula in a list tells of the states, and that the formula that tells apart does so. -/
import Derived.Test.YtdgnhfhaaghoaaaGreatDoorJ28
import Derived.Test.YtdgnhfhaaghoaaaGreatDoorJ14
set_option linter.unusedSimpArgs false
set_option linter.unusedVariables false
namespace Go.Proofs.YtdgnhfhaaghoaaaGreatDoor

inductive Fo where
  | tt : Fo
  | mk : Nat → Fo
  | no : Fo → Fo
  | an : Fo → Fo → Fo
  | ca : Nat → Fo → Fo

def Fo.code : Fo → List Int
  | .tt => [0]
  | .mk m => [1, (m : Int)]
  | .no a => 2 :: a.code
  | .an a b => 3 :: (a.code ++ b.code)
  | .ca x a => 4 :: (x : Int) :: a.code
/-- Marks and actions are in range. -/
def Fo.ok : Fo → Prop
  | .tt => True
  | .mk m => m < 8
  | .no a => a.ok
  | .an a b => a.ok ∧ b.ok
  | .ca x a => x < 8 ∧ a.ok
def Fo.sat (l : Lab) : Fo → Nat → Bool
  | .tt, _ => true
  | .mk m, i => hasI (l.shows.getD i []) (m : Int)
  | .no a, i => !a.sat l i
  | .an a b, i => a.sat l i && b.sat l i
  | .ca x a, i => l.steps.any fun s => (s.1 == (i : Int)) && (s.2.1 == (x : Int)) && a.sat l s.2.2.toNat
def Fo.rows (l : Lab) (a : Fo) : List Bool := (List.range l.shows.length).map (a.sat l)

theorem at_pre {pre g post : List Int} {j : Nat} (h : j < g.length) : (pre ++ (g ++ post)).getD (pre.length + j) 0 = g.getD j 0 := by
  simp [List.getD, List.getElem?_append_right, List.getElem?_append_left h]
theorem rows_at {l : Lab} {a : Fo} {i : Nat} (h : i < l.shows.length) : (a.rows l).getD i false = a.sat l i := by
  simp [Fo.rows, List.getD, h]

/-- The end of a formula that stands in a list, and its states. -/
theorem end_code : ∀ (a : Fo), a.ok → ∀ (pre post : List Int) (n : Nat), a.code.length ≤ n → fEnd n (pre ++ (a.code ++ post)) (pre.length : Int) = ((pre.length + a.code.length : Nat) : Int)
  | .tt, _, pre, post, n + 1, _ => by
    have h0 := at_pre (pre := pre) (g := Fo.tt.code) (post := post) (j := 0) (by simp [Fo.code])
    rw [Nat.add_zero] at h0
    unfold fEnd
    rw [if_neg (by simp [Fo.code]; omega), Int.toNat_natCast, h0]
    simp [Fo.code]
  | .mk m, hm, pre, post, n + 1, _ => by
    have hm : m < 8 := hm
    have h0 := at_pre (pre := pre) (g := (Fo.mk m).code) (post := post) (j := 0) (by simp [Fo.code])
    have h1 := at_pre (pre := pre) (g := (Fo.mk m).code) (post := post) (j := 1) (by simp [Fo.code])
    rw [Nat.add_zero] at h0
    have e1 : ((pre.length : Int) + 1).toNat = pre.length + 1 := by omega
    have hl : (pre ++ ((Fo.mk m).code ++ post)).length = pre.length + (2 + post.length) := by simp [Fo.code]; omega
    unfold fEnd
    rw [if_neg (by rw [hl]; omega), Int.toNat_natCast, h0, e1, h1, hl]
    simp [Fo.code, inB]
    omega
  | .no a, ha, pre, post, n + 1, hn => by
    have h0 := at_pre (pre := pre) (g := (Fo.no a).code) (post := post) (j := 0) (by simp [Fo.code])
    rw [Nat.add_zero] at h0
    have hl : (pre ++ ((Fo.no a).code ++ post)).length = pre.length + (1 + a.code.length + post.length) := by simp [Fo.code]; omega
    have ih := end_code a ha (pre ++ [2]) post n (by simp [Fo.code] at hn; omega)
    have e : (pre ++ [2]) ++ (a.code ++ post) = pre ++ ((Fo.no a).code ++ post) := by simp [Fo.code]
    rw [e] at ih
    unfold fEnd
    rw [if_neg (by rw [hl]; omega), Int.toNat_natCast, h0]
    have e2 : ((pre ++ [2]).length : Int) = (pre.length : Int) + 1 := by simp
    rw [e2] at ih
    show (if (2 : Int) == 0 then _ else if (2 : Int) == 1 then _ else if (2 : Int) == 2 then fEnd n (pre ++ ((Fo.no a).code ++ post)) ((pre.length : Int) + 1) else _) = _
    rw [ih]
    simp [Fo.code]
    omega
  | .an a b, hab, pre, post, n + 1, hn => by
    have h0 := at_pre (pre := pre) (g := (Fo.an a b).code) (post := post) (j := 0) (by simp [Fo.code])
    rw [Nat.add_zero] at h0
    have hl : (pre ++ ((Fo.an a b).code ++ post)).length = pre.length + (1 + a.code.length + b.code.length + post.length) := by simp [Fo.code]; omega
    have iha := end_code a hab.1 (pre ++ [3]) (b.code ++ post) n (by simp [Fo.code] at hn; omega)
    have ihb := end_code b hab.2 (pre ++ 3 :: a.code) post n (by simp [Fo.code] at hn; omega)
    have e : (pre ++ [3]) ++ (a.code ++ (b.code ++ post)) = pre ++ ((Fo.an a b).code ++ post) := by simp [Fo.code]
    have e' : (pre ++ 3 :: a.code) ++ (b.code ++ post) = pre ++ ((Fo.an a b).code ++ post) := by simp [Fo.code]
    rw [e] at iha
    rw [e'] at ihb
    have e2 : ((pre ++ [3]).length : Int) = (pre.length : Int) + 1 := by simp
    have e3 : (((pre ++ [3]).length + a.code.length : Nat) : Int) = ((pre ++ 3 :: a.code).length : Int) := by simp; omega
    rw [e2, e3] at iha
    unfold fEnd
    rw [if_neg (by rw [hl]; omega), Int.toNat_natCast, h0]
    show (if (3 : Int) == 0 then _ else if (3 : Int) == 1 then _ else if (3 : Int) == 2 then _ else if (3 : Int) == 3 then fEnd n (pre ++ ((Fo.an a b).code ++ post)) (fEnd n (pre ++ ((Fo.an a b).code ++ post)) ((pre.length : Int) + 1)) else _) = _
    rw [iha, ihb]
    simp [Fo.code]
    omega
  | .ca x a, hxa, pre, post, n + 1, hn => by
    have hx : x < 8 := hxa.1
    have h0 := at_pre (pre := pre) (g := (Fo.ca x a).code) (post := post) (j := 0) (by simp [Fo.code])
    have h1 := at_pre (pre := pre) (g := (Fo.ca x a).code) (post := post) (j := 1) (by simp [Fo.code])
    rw [Nat.add_zero] at h0
    have hl : (pre ++ ((Fo.ca x a).code ++ post)).length = pre.length + (2 + a.code.length + post.length) := by simp [Fo.code]; omega
    have e1 : ((pre.length : Int) + 1).toNat = pre.length + 1 := by omega
    have ih := end_code a hxa.2 (pre ++ [4, (x : Int)]) post n (by simp [Fo.code] at hn; omega)
    have e : (pre ++ [4, (x : Int)]) ++ (a.code ++ post) = pre ++ ((Fo.ca x a).code ++ post) := by simp [Fo.code]
    rw [e] at ih
    have e2 : ((pre ++ [4, (x : Int)]).length : Int) = (pre.length : Int) + 2 := by simp
    rw [e2] at ih
    unfold fEnd
    rw [if_neg (by rw [hl]; omega), Int.toNat_natCast, h0, e1, h1]
    have hb : (decide ((pre.length : Int) + 1 < ((pre ++ ((Fo.ca x a).code ++ post)).length : Int)) && inB ((Fo.ca x a).code.getD 1 0) 0 7) = true := by
      rw [hl]
      simp [Fo.code, inB]
      omega
    rw [hb, ih]
    simp [Fo.code]
    omega
  | .tt, _, _, _, 0, h | .mk _, _, _, _, 0, h | .no _, _, _, _, 0, h | .an _ _, _, _, _, 0, h | .ca _ _, _, _, _, 0, h => by simp [Fo.code] at h

theorem row_ext {a b : List Bool} (h : a.length = b.length) (he : ∀ i, i < a.length → a.getD i false = b.getD i false) : a = b := by
  apply List.ext_getElem h
  intro i h1 h2
  have := he i h1
  simpa [List.getD, h1, h2] using this
theorem sat_code (l : Lab) (hst : ∀ s ∈ l.steps, ∃ j : Nat, s.2.2 = (j : Int) ∧ j < l.shows.length) : ∀ (a : Fo), a.ok → ∀ (pre post : List Int) (n : Nat), a.code.length ≤ n → satB l (pre ++ (a.code ++ post)) n (pre.length : Int) = a.rows l
  | .tt, _, pre, post, n + 1, _ => by
    have h0 := at_pre (pre := pre) (g := Fo.tt.code) (post := post) (j := 0) (by simp [Fo.code])
    rw [Nat.add_zero] at h0
    rw [satB, Int.toNat_natCast, h0]
    show l.shows.map (fun _ => true) = _
    refine row_ext (by simp [Fo.rows]) fun i hi => ?_
    have hi : i < l.shows.length := by simpa using hi
    rw [rows_at hi]
    simp [List.getD, hi, Fo.sat]
  | .mk m, _, pre, post, n + 1, _ => by
    have h0 := at_pre (pre := pre) (g := (Fo.mk m).code) (post := post) (j := 0) (by simp [Fo.code])
    have h1 := at_pre (pre := pre) (g := (Fo.mk m).code) (post := post) (j := 1) (by simp [Fo.code])
    rw [Nat.add_zero] at h0
    have e1 : ((pre.length : Int) + 1).toNat = pre.length + 1 := by omega
    rw [satB, Int.toNat_natCast, h0, e1, h1]
    show l.shows.map (fun x => hasI x (m : Int)) = _
    refine row_ext (by simp [Fo.rows]) fun i hi => ?_
    have hi : i < l.shows.length := by simpa using hi
    rw [rows_at hi]
    simp [List.getD, hi, Fo.sat]
  | .no a, ha, pre, post, n + 1, hn => by
    have h0 := at_pre (pre := pre) (g := (Fo.no a).code) (post := post) (j := 0) (by simp [Fo.code])
    rw [Nat.add_zero] at h0
    have ih := sat_code l hst a ha (pre ++ [2]) post n (by simp [Fo.code] at hn; omega)
    have e : (pre ++ [2]) ++ (a.code ++ post) = pre ++ ((Fo.no a).code ++ post) := by simp [Fo.code]
    have e2 : ((pre ++ [2]).length : Int) = (pre.length : Int) + 1 := by simp
    rw [e, e2] at ih
    rw [satB, Int.toNat_natCast, h0]
    show (satB l (pre ++ ((Fo.no a).code ++ post)) n ((pre.length : Int) + 1)).map (!·) = _
    rw [ih]
    simp [Fo.rows, Fo.sat]
  | .an a b, hab, pre, post, n + 1, hn => by
    have h0 := at_pre (pre := pre) (g := (Fo.an a b).code) (post := post) (j := 0) (by simp [Fo.code])
    rw [Nat.add_zero] at h0
    have hla : a.code.length ≤ n := by simp [Fo.code] at hn; omega
    have hlb : b.code.length ≤ n := by simp [Fo.code] at hn; omega
    have iha := sat_code l hst a hab.1 (pre ++ [3]) (b.code ++ post) n hla
    have ihe := end_code a hab.1 (pre ++ [3]) (b.code ++ post) n hla
    have ihb := sat_code l hst b hab.2 (pre ++ 3 :: a.code) post n hlb
    have e : (pre ++ [3]) ++ (a.code ++ (b.code ++ post)) = pre ++ ((Fo.an a b).code ++ post) := by simp [Fo.code]
    have e' : (pre ++ 3 :: a.code) ++ (b.code ++ post) = pre ++ ((Fo.an a b).code ++ post) := by simp [Fo.code]
    have e2 : ((pre ++ [3]).length : Int) = (pre.length : Int) + 1 := by simp
    have e3 : (((pre ++ [3]).length + a.code.length : Nat) : Int) = ((pre ++ 3 :: a.code).length : Int) := by simp; omega
    rw [e, e2] at iha
    rw [e, e2, e3] at ihe
    rw [e'] at ihb
    rw [satB, Int.toNat_natCast, h0]
    show List.zipWith (· && ·) (satB l (pre ++ ((Fo.an a b).code ++ post)) n ((pre.length : Int) + 1)) (satB l (pre ++ ((Fo.an a b).code ++ post)) n (fEnd n (pre ++ ((Fo.an a b).code ++ post)) ((pre.length : Int) + 1))) = _
    rw [iha, ihe, ihb]
    refine row_ext (by simp [Fo.rows]) fun i hi => ?_
    have hi : i < l.shows.length := by simpa [Fo.rows] using hi
    rw [rows_at hi]
    simp [List.getD, Fo.rows, hi, Fo.sat]
  | .ca x a, hxa, pre, post, n + 1, hn => by
    have h0 := at_pre (pre := pre) (g := (Fo.ca x a).code) (post := post) (j := 0) (by simp [Fo.code])
    have h1 := at_pre (pre := pre) (g := (Fo.ca x a).code) (post := post) (j := 1) (by simp [Fo.code])
    rw [Nat.add_zero] at h0
    have e1 : ((pre.length : Int) + 1).toNat = pre.length + 1 := by omega
    have ih := sat_code l hst a hxa.2 (pre ++ [4, (x : Int)]) post n (by simp [Fo.code] at hn; omega)
    have e : (pre ++ [4, (x : Int)]) ++ (a.code ++ post) = pre ++ ((Fo.ca x a).code ++ post) := by simp [Fo.code]
    have e2 : ((pre ++ [4, (x : Int)]).length : Int) = (pre.length : Int) + 2 := by simp
    rw [e, e2] at ih
    rw [satB, Int.toNat_natCast, h0, e1, h1]
    show (List.range l.shows.length).map (canB l (x : Int) (satB l (pre ++ ((Fo.ca x a).code ++ post)) n ((pre.length : Int) + 2))) = _
    rw [ih]
    refine row_ext (by simp [Fo.rows]) fun i hi => ?_
    have hi : i < l.shows.length := by simpa using hi
    rw [rows_at hi]
    simp only [List.getD, List.getElem?_map, List.getElem?_range hi, Option.map_some, Option.getD_some, canB, Fo.sat]
    rw [Bool.eq_iff_iff, List.any_eq_true, List.any_eq_true]
    have hrow : ∀ s ∈ l.steps, (a.rows l).getD s.2.2.toNat false = a.sat l s.2.2.toNat := by
      intro s hs
      obtain ⟨j, hj, hjn⟩ := hst s hs
      rw [hj, Int.toNat_natCast]
      exact rows_at hjn
    constructor
    · rintro ⟨s, hs, h⟩
      exact ⟨s, hs, by rw [← hrow s hs]; simpa [List.getD] using h⟩
    · rintro ⟨s, hs, h⟩
      exact ⟨s, hs, by rw [← hrow s hs] at h; simpa [List.getD] using h⟩
  | .tt, _, _, _, 0, h | .mk _, _, _, _, 0, h | .no _, _, _, _, 0, h | .an _ _, _, _, _, 0, h | .ca _ _, _, _, _, 0, h => by simp [Fo.code] at h

/-- States of one part at the end satisfy the same formulas. -/
theorem sat_bisim (l : Lab) (h0 : 1 ≤ l.shows.length) (hst : ∀ s ∈ l.steps, ∃ i j : Nat, s.1 = (i : Int) ∧ s.2.2 = (j : Int) ∧ i < l.shows.length ∧ j < l.shows.length) (hlast : partsL l (l.shows.length + 1) = lastL l) : ∀ (a : Fo) (i j : Nat), i < l.shows.length → j < l.shows.length → (lastL l).getD i 0 = (lastL l).getD j 0 → a.sat l i = a.sat l j
  | .tt, _, _, _, _, _ => rfl
  | .mk m, i, j, hi, hj, e => by
    have : ∀ k, (partsL l k).getD i 0 = (partsL l k).getD j 0 → (partsL l 0).getD i 0 = (partsL l 0).getD j 0 := by
      intro k
      induction k with
      | zero => exact id
      | succ k ih => exact fun h => ih (parts_finer l k hi hj h)
    have h1 := (parts_iff l 0 hi hj).1 (this l.shows.length e)
    have h2 : l.shows.getD i [] = l.shows.getD j [] := by
      have : showB l i j = true := h1
      simpa [showB] using this
    show hasI _ _ = hasI _ _
    rw [h2]
  | .no a, i, j, hi, hj, e => by
    show (!_) = (!_)
    rw [sat_bisim l h0 hst hlast a i j hi hj e]
  | .an a b, i, j, hi, hj, e => by
    show (_ && _) = (_ && _)
    rw [sat_bisim l h0 hst hlast a i j hi hj e, sat_bisim l h0 hst hlast b i j hi hj e]
  | .ca x a, i, j, hi, hj, e => by
    have hs : sigB l.steps (lastL l) i j = true := by
      have : (partsL l (l.shows.length + 1)).getD i 0 = (partsL l (l.shows.length + 1)).getD j 0 := by rw [hlast]; exact e
      exact (parts_iff l (l.shows.length + 1) hi hj).1 this
    have half : ∀ i j : Nat, nextB l.steps (lastL l) i j = true → (Fo.ca x a).sat l i = true → (Fo.ca x a).sat l j = true := by
      intro i j hn h
      unfold Fo.sat at h ⊢
      rw [List.any_eq_true] at h ⊢
      obtain ⟨s, hs, h⟩ := h
      simp only [Bool.and_eq_true, beq_iff_eq] at h
      obtain ⟨t, ht, t1, t2, t3⟩ := (nextB_iff.1 hn) s hs h.1.1
      obtain ⟨p, q, hp, hq, hpn, hqn⟩ := hst s hs
      obtain ⟨u, v, hu, hv, hun, hvn⟩ := hst t ht
      have hqv : a.sat l v = a.sat l q := by
        refine sat_bisim l h0 hst hlast a v q hvn hqn ?_
        unfold atP at t3
        rw [hq, hv, Int.toNat_natCast, Int.toNat_natCast] at t3
        exact t3
      refine ⟨t, ht, ?_⟩
      have hsq : s.2.2.toNat = q := by omega
      have htv : t.2.2.toNat = v := by omega
      rw [hsq] at h
      rw [htv, hqv]
      simp [t1, t2, h.1.2, h.2]
    obtain ⟨_, h1, h2⟩ := sigB_iff.1 hs
    rw [Bool.eq_iff_iff]
    exact ⟨half i j h1, half j i h2⟩

end Go.Proofs.YtdgnhfhaaghoaaaGreatDoor
