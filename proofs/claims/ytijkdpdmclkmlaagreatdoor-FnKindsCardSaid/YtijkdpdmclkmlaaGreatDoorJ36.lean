/- Kinds of bigraphs: the tests by places, and the plain law of them. -/
import Derived.Test.YtijkdpdmclkmlaaGreatDoorProg
import Derived.Test.YtijkdpdmclkmlaaGreatDoorJ29
import Derived.Test.YtijkdpdmclkmlaaGreatDoorJ19
set_option linter.unusedSimpArgs false
set_option linter.unusedVariables false
namespace Go.Proofs.YtijkdpdmclkmlaaGreatDoor
open Go.RowKit

/-- Each outer name has one point. -/
def oneAt (g : Gr) (i : Nat) : Bool := ((ptsG g (g.edges + (i : Int))).length : Int) + ((endsG g (g.edges + (i : Int))).length : Int) == 1
def oneB (g : Gr) : Bool := allR g.outer.length (oneAt g)
def wirB (g : Gr) : Bool := g.roots == 0
theorem wirB_eq (g : Gr) : wirB g = (g.roots == 0) := rfl
theorem plac_int (g : Gr) : placB g = (((g.nodes.length : Int) == 0) && (g.edges == 0) && ((g.outer.length : Int) == 0) && ((g.inner.length : Int) == 0)) := by
  unfold placB
  rw [Bool.eq_iff_iff]
  simp
theorem sum_plac {g : Gr} (he : 0 ≤ g.edges) : ((g.nodes.length : Int) + g.edges + (g.outer.length : Int) + (g.inner.length : Int) == 0) = placB g := by
  rw [plac_int, Bool.eq_iff_iff]
  simp only [Bool.and_eq_true, beq_iff_eq]
  omega
theorem und_len (g : Gr) : (undG g).length = g.sites.length := by unfold undG; rw [List.length_map]
theorem und_take {g : Gr} {k : Nat} (h : k < g.sites.length) : (undG g).take (k + 1) = (undG g).take k ++ [-1 - g.sites.getD k 0] := by
  rw [List.take_add_one, getD_lt (d := 0) (show k < (undG g).length by rw [und_len]; exact h), und_at h]
  rfl
def holesTo (g : Gr) (p : Int) (n : Nat) : List Int := ((List.range n).filter fun i => g.sites.getD i 0 == p).map fun i : Nat => (i : Int)
theorem holes_yes {g : Gr} {p : Int} {k : Nat} (h : (g.sites.getD k 0 == p) = true) : holesTo g p (k + 1) = holesTo g p k ++ [(k : Int)] := by
  unfold holesTo
  rw [List.range_succ, List.filter_append, List.map_append]
  simp only [List.filter_cons, h, if_true, List.filter_nil, List.map_cons, List.map_nil]
theorem holes_no {g : Gr} {p : Int} {k : Nat} (h : (g.sites.getD k 0 == p) = false) : holesTo g p (k + 1) = holesTo g p k := by
  unfold holesTo
  rw [List.range_succ, List.filter_append, List.map_append]
  simp only [List.filter_cons, h, List.filter_nil, List.map_nil, List.append_nil]
  simp
theorem holes_len (g : Gr) (p : Int) (n : Nat) : (holesTo g p n).length ≤ n := by
  unfold holesTo
  rw [List.length_map]
  have := List.length_filter_le (fun i => g.sites.getD i 0 == p) (List.range n)
  rwa [List.length_range] at this
def leanB (g : Gr) : Bool := allR g.edges.toNat fun l => !idleB g (l : Int)
def guardB (g : Gr) : Bool := allR g.sites.length (fun i => decide (0 ≤ g.sites.getD i 0)) && allR g.inner.length fun i => decide ((wiA g i).2 < g.edges)
def idN (g : Gr) : Gr := idG g.roots.toNat g.outer
/-- Compared with one that has no nodes, field by field. -/
def eqI (a h : Gr) : Bool := (a.roots == h.roots) && (a.edges == h.edges) && decide (a.sites = h.sites) && decide (a.outer = h.outer) && decide (a.inner = h.inner) && decide (a.nodes = [])
theorem eqI_iff {a h : Gr} (hn : h.nodes = []) : eqI a h = true ↔ a = h := by
  unfold eqI
  simp only [Bool.and_eq_true, beq_iff_eq, decide_eq_true_eq]
  constructor
  · rintro ⟨⟨⟨⟨⟨h1, h2⟩, h3⟩, h4⟩, h5⟩, h6⟩
    exact gr_ext _ _ h1 (by rw [h6, hn]) h3 h2 h4 h5
  · rintro rfl
    exact ⟨⟨⟨⟨⟨rfl, rfl⟩, rfl⟩, rfl⟩, rfl⟩, hn⟩
def placR (sig : List Ct) (g : Gr) : Bool := goodG sig g && placB g
def permR (sig : List Ct) (g : Gr) : Bool := goodG sig g && permB g
def identR (sig : List Ct) (g : Gr) : Bool := goodG sig g && eqI g (idN g)
def wirR (sig : List Ct) (g : Gr) : Bool := goodG sig g && wirB g
def openR (sig : List Ct) (g : Gr) : Bool := wirR sig g && (g.edges == 0)
def renR (sig : List Ct) (g : Gr) : Bool := openR sig g && oneB g
def discR (sig : List Ct) (g : Gr) : Bool := goodG sig g && (g.edges == 0) && oneB g
def primR (sig : List Ct) (g : Gr) : Bool := goodG sig g && (g.roots == 1) && ((g.inner.length : Int) == 0)
def leanR (sig : List Ct) (g : Gr) : Bool := goodG sig g && leanB g
def guardR (sig : List Ct) (g : Gr) : Bool := goodG sig g && guardB g

theorem idN_kinds {sig : List Ct} {g : Gr} (hg : GoodP sig g) (he : g = idN g) : g.edges = 0 ∧ oneB g = true ∧ leanB g = true ∧ (g.outer.length = 0 → permB g = true) := by
  have h1 : g.edges = 0 := by rw [he]; rfl
  have hn : g.nodes = [] := by rw [he]; rfl
  have hi : g.inner = (List.range g.outer.length).map fun i : Nat => (g.outer.getD i default, (i : Int)) := by
    have : g.inner = (idN g).inner := congrArg Gr.inner he
    exact this
  have hs : g.sites = (List.range g.roots.toNat).map fun i : Nat => -1 - (i : Int) := by
    have : g.sites = (idN g).sites := congrArg Gr.sites he
    exact this
  have hil : g.inner.length = g.outer.length := by rw [hi]; simp
  have hr := hg.r
  refine ⟨h1, ?_, ?_, fun h0 => ?_⟩
  · unfold oneB
    rw [allR_iff]
    intro i hi'
    have e1 : ptsG g (g.edges + (i : Int)) = [] := by unfold ptsG ptsTo; rw [hn]; rfl
    have e2 : (endsG g (g.edges + (i : Int))).length = 1 := by
      unfold endsG endsTo
      rw [List.length_map]
      have hw : ∀ j, j < g.inner.length → (wiA g j).2 = (j : Int) := fun j hj => by
        have : wiA g j = (g.outer.getD j default, (j : Int)) := by
          unfold wiA
          apply getD_some
          rw [hi, List.getElem?_map, List.getElem?_range (by omega)]
          rfl
        rw [this]
      refine one_filter (i := i) (by omega) ?_ fun j hj hp => ?_
      · rw [beq_iff_eq, hw i (by omega)]; omega
      · rw [beq_iff_eq, hw j hj] at hp; omega
    unfold oneAt
    rw [e1, e2]; rfl
  · unfold leanB
    rw [h1]; first | done | rfl
  · have hp : g = permG (upto 0 g.roots.toNat) := by
      rw [perm_id]
      have ho : g.outer = [] := List.length_eq_zero_iff.1 h0
      rw [he]
      unfold idN
      rw [ho]
      have : ((idG g.roots.toNat []).roots).toNat = g.roots.toNat := by show ((g.roots.toNat : Int)).toNat = _; omega
      rw [this]
    unfold permB
    have hpl : placB g = true := by
      unfold placB
      rw [hn, h1, hil, h0]; rfl
    rw [hpl, Bool.true_and, order_iff]
    refine ⟨?_, fun x h2 h3 => ?_⟩
    · unfold undG
      rw [List.length_map, hs, List.length_map, List.length_range]; omega
    · unfold undG
      rw [hs, List.map_map]
      exact List.mem_map.2 ⟨x.toNat, List.mem_range.2 (by omega), by simp only [Function.comp]; omega⟩

theorem placR_eq (sig : List Ct) (g : Gr) : placR sig g = (goodG sig g && placB g) := rfl
theorem permR_eq (sig : List Ct) (g : Gr) : permR sig g = (goodG sig g && permB g) := rfl
theorem permR_alt (sig : List Ct) (g : Gr) : permR sig g = (goodG sig g && permuB g) := by
  unfold permR
  cases h : goodG sig g
  · rfl
  · rw [perm_same ((good_iff sig g).1 h)]
theorem wirR_eq (sig : List Ct) (g : Gr) : wirR sig g = (goodG sig g && wirB g) := rfl
theorem wirR_alt (sig : List Ct) (g : Gr) : wirR sig g = (goodG sig g && (g.roots == 0)) := rfl
theorem openR_eq (sig : List Ct) (g : Gr) : openR sig g = (wirR sig g && (g.edges == 0)) := rfl
theorem openR_alt (sig : List Ct) (g : Gr) : openR sig g = (goodG sig g && (wirB g && (g.edges == 0))) := by unfold openR wirR; rw [Bool.and_assoc]
theorem renR_eq (sig : List Ct) (g : Gr) : renR sig g = (openR sig g && oneB g) := rfl
theorem renR_alt (sig : List Ct) (g : Gr) : renR sig g = (goodG sig g && ((wirB g && (g.edges == 0)) && (oneB g && (g.edges == 0)))) := by
  unfold renR
  rw [openR_alt]
  cases goodG sig g <;> cases wirB g <;> cases (g.edges == 0) <;> cases oneB g <;> rfl
theorem discR_eq (sig : List Ct) (g : Gr) : discR sig g = (goodG sig g && (g.edges == 0) && oneB g) := rfl
theorem discR_alt (sig : List Ct) (g : Gr) : discR sig g = (goodG sig g && (oneB g && (g.edges == 0))) := by
  unfold discR
  cases goodG sig g <;> cases (g.edges == 0) <;> cases oneB g <;> rfl
theorem primR_eq (sig : List Ct) (g : Gr) : primR sig g = (goodG sig g && (g.roots == 1) && ((g.inner.length : Int) == 0)) := rfl
theorem leanR_eq (sig : List Ct) (g : Gr) : leanR sig g = (goodG sig g && leanB g) := rfl
theorem guardR_eq (sig : List Ct) (g : Gr) : guardR sig g = (goodG sig g && guardB g) := rfl
theorem any_not1 (n : Nat) (q : Nat → Bool) : (!anyR n fun k => !q k) = allR n q := by
  unfold anyR allR
  induction List.range n with
  | nil => rfl
  | cons x r ih =>
    simp only [List.any_cons, List.all_cons, Bool.not_or, Bool.not_not, ← ih]
theorem guardR_alt (sig : List Ct) (g : Gr) : guardR sig g = (goodG sig g && (!anyR g.sites.length fun k => !decide (0 ≤ g.sites.getD k 0)) && (!anyR g.inner.length fun k => !decide ((wiA g k).2 < g.edges))) := by
  rw [any_not1, any_not1, Bool.and_assoc]
  rfl
theorem identR_eq (sig : List Ct) (g : Gr) : identR sig g = (goodG sig g && eqI g (idN g)) := rfl
theorem permB_eq (g : Gr) : permB g = (placB g && orderB g.roots (undG g)) := rfl
theorem sits_bound {sig : List Ct} {g : Gr} (h : GoodP sig g) : ∀ p ∈ g.sites, p ≤ 1000 := fun p hp => by
  have h1 := h.sit p hp
  have h2 := h.n8
  by_cases h0 : 0 ≤ p
  · have := (h1.2 h0).1; omega
  · omega
theorem idN_small {sig : List Ct} {g : Gr} (h : GoodP sig g) (hs : SmallG g) : SmallG (idN g) := by
  have hr := h.r
  refine { nodes := Nat.zero_le _, links := fun x hx => (nomatch hx), sites := ?_, outer := hs.outer, onames := hs.onames, inner := ?_, inames := fun x hx => ?_, edges := by show (-1000 : Int) ≤ 0 ∧ (0 : Int) ≤ 1000; omega, roots := ?_, pars := fun x hx => (nomatch hx), sits := fun p hp => ?_ }
  · show ((List.range g.roots.toNat).map _).length ≤ 1000
    rw [List.length_map, List.length_range]; omega
  · show ((List.range g.outer.length).map _).length ≤ 1000
    rw [List.length_map, List.length_range]; exact hs.outer
  · obtain ⟨i, hi, rfl⟩ := List.mem_map.1 hx
    have hi2 := List.mem_range.1 hi
    exact hs.onames _ (by simp [List.getD, hi2])
  · show -1000 ≤ ((g.roots.toNat : Nat) : Int) ∧ ((g.roots.toNat : Nat) : Int) ≤ 1000
    omega
  · obtain ⟨i, hi, rfl⟩ := List.mem_map.1 hp
    have hi2 := List.mem_range.1 hi
    omega

/-- The law of kinds. -/
theorem kinds_law (sig : List Ct) (g : Gr) : (permR sig g = true → placR sig g = true) ∧ (renR sig g = true → openR sig g = true ∧ discR sig g = true) ∧ (openR sig g = true → wirR sig g = true) ∧ (identR sig g = true → discR sig g = true ∧ leanR sig g = true ∧ (g.outer.length = 0 → permR sig g = true)) := by
  refine ⟨fun h => ?_, fun h => ?_, fun h => ?_, fun h => ?_⟩
  · unfold permR permB at h
    simp only [Bool.and_eq_true] at h
    unfold placR
    rw [h.1, h.2.1]; rfl
  · unfold renR at h
    simp only [Bool.and_eq_true] at h
    refine ⟨h.1, ?_⟩
    have h1 := h.1
    unfold openR wirR at h1
    simp only [Bool.and_eq_true] at h1
    unfold discR
    rw [h1.1.1, h1.2, h.2]; rfl
  · unfold openR at h
    simp only [Bool.and_eq_true] at h
    exact h.1
  · unfold identR at h
    simp only [Bool.and_eq_true] at h
    have hg := (good_iff sig g).1 h.1
    obtain ⟨a1, a2, a3, a4⟩ := idN_kinds hg ((eqI_iff rfl).1 h.2)
    refine ⟨?_, ?_, fun h0 => ?_⟩
    · unfold discR
      rw [h.1, a2, a1]; rfl
    · unfold leanR
      rw [h.1, a3]; rfl
    · unfold permR
      rw [h.1, a4 h0]; rfl

end Go.Proofs.YtijkdpdmclkmlaaGreatDoor
