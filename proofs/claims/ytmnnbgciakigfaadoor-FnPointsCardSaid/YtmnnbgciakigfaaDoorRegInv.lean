/- A region that draws its order, by what holds while it is under way: each operation is shown once, whatever came before it. No program is in sight. -/
import Derived.RegionTactic
import Derived.WalkKit
import Derived.NoCompiler
set_option linter.unusedVariables false
namespace Go.Proofs.YtmnnbgciakigfaaDoor
open Go.RowKit

/-- One operation more has come up. -/
def upd (L : Nat → Bool) (i : Nat) : Nat → Bool := fun j => if j = i then true else L j
theorem upd_same (L : Nat → Bool) (i : Nat) : upd L i i = true := by simp [upd]
theorem upd_other {L : Nat → Bool} {i j : Nat} (h : j ≠ i) : upd L i j = L j := by simp [upd, h]

theorem count_set {l : List Bool} {i : Nat} (h : l[i]? = some false) : (l.set i true).count false + 1 = l.count false := by
  induction l generalizing i with
  | nil => simp at h
  | cons a l ih =>
    cases i with
    | zero =>
      simp at h
      subst h
      simp [List.count_cons]
    | succ i =>
      have := ih (by simpa using h)
      simp only [List.set_cons_succ, List.count_cons]
      omega

/-- A slot's value: the new one if its operation has come up. -/
def bsel {α : Type} (b : Bool) (x y : α) : α := if b then x else y
theorem bsel_t {α : Type} (x y : α) : bsel true x y = x := rfl

section
variable {P : Program} {md : Region.Mode} {ops : Array Oper} {Q : Exit → Act → World → Prop}

theorem wpAny_inv (J : (Nat → Bool) → Act → World → Prop)
    (step : ∀ (L : Nat → Bool) (a : Act) (w : World) (i : Nat) (o : Oper), J L a w → L i = false → ops[i]? = some o → (∀ e ∈ o.after, Region.binds md e = true → L e.on = true) →
      ∀ K' : Act → World → Prop, (∀ a' w', J (upd L i) a' w' → K' a' w') → if Region.wanted o (yielded ops a.tmps) = true then Oper.wp P o a w K' Q else K' (a.put o.dst undef) w)
    (fin : ∀ (L : Nat → Bool) (a : Act) (w : World), J L a w → (∀ i o, ops[i]? = some o → L i = false → ∃ e ∈ o.after, Region.binds md e = true ∧ L e.on = false) → Q .normal a w) :
    ∀ (fuel : Nat) (listed : Array Bool) (a : Act) (w : World), listed.size = ops.size → listed.toList.count false ≤ fuel → J (fun i => listed.getD i false) a w → wpAny P md ops Q fuel listed a w := by
  have hfin : ∀ (listed : Array Bool) (a : Act) (w : World), listed.size = ops.size → J (fun i => listed.getD i false) a w → Region.ready md ops listed = [] → Q .normal a w := fun listed a w hs hJ hr => by
    refine fin _ a w hJ fun i o ho hi => ?_
    have hil : i < listed.size := by rw [hs]; exact (Array.getElem?_eq_some_iff.1 ho).1
    refine Classical.byContradiction fun hn => ?_
    have hm : i ∈ Region.ready md ops listed := mem_ready.2 ⟨by simpa [hil] using hi, o, ho, fun e he hb => by
      cases hx : listed.getD e.on false
      · exact absurd ⟨e, he, hb, hx⟩ hn
      · rfl⟩
    rw [hr] at hm
    cases hm
  intro fuel
  induction fuel with
  | zero =>
    intro listed a w hs hc hJ
    have hr : Region.ready md ops listed = [] := by
      rw [List.eq_nil_iff_forall_not_mem]
      intro i hi
      obtain ⟨h1, o, ho, _⟩ := mem_ready.1 hi
      have hil : i < listed.size := by rw [hs]; exact (Array.getElem?_eq_some_iff.1 ho).1
      have h2 : listed[i] = false := by simpa [hil] using h1
      have : false ∈ listed.toList := by rw [← h2]; simp
      have := List.count_pos_iff.2 this
      omega
    exact ⟨hr, hfin listed a w hs hJ hr⟩
  | succ fuel ih =>
    intro listed a w hs hc hJ
    refine ⟨hfin listed a w hs hJ, fun i hi => ?_⟩
    obtain ⟨h1, o, ho, hd⟩ := mem_ready.1 hi
    have hil : i < listed.size := by rw [hs]; exact (Array.getElem?_eq_some_iff.1 ho).1
    have h2 : listed[i] = false := by simpa [hil] using h1
    refine wpOp_step ho fun K' hK => step _ a w i o hJ (by simpa [hil] using h2) ho hd K' fun a' w' hJ' => hK a' w' (ih _ a' w' (by simpa using hs) ?_ ?_)
    · rw [Array.toList_setIfInBounds]
      have := count_set (l := listed.toList) (i := i) (by rw [Array.getElem?_toList, Array.getElem?_eq_getElem hil, h2])
      omega
    · have e : (fun j => (listed.setIfInBounds i true).getD j false) = upd (fun j => listed.getD j false) i := by
        funext j
        unfold upd
        by_cases hj : j = i
        · subst hj
          simp [hil]
        · rw [if_neg hj]
          simp [Array.getD_eq_getD_getElem?, Array.getElem?_setIfInBounds, Ne.symm hj]
      rw [e]
      exact hJ'

/-- The region as a whole. -/
theorem wp_region_inv {id : Nat} {a : Act} {w : World} (hm : P.follows .mixedOrders = true) (J : (Nat → Bool) → Act → World → Prop) (h0 : J (fun _ => false) a w.drew)
    (step : ∀ (L : Nat → Bool) (a : Act) (w : World) (i : Nat) (o : Oper), J L a w → L i = false → ops[i]? = some o → (∀ e ∈ o.after, Region.binds .any e = true → L e.on = true) →
      ∀ K' : Act → World → Prop, (∀ a' w', J (upd L i) a' w' → K' a' w') → if Region.wanted o (yielded ops a.tmps) = true then Oper.wp P o a w K' Q else K' (a.put o.dst undef) w)
    (fin : ∀ (L : Nat → Bool) (a : Act) (w : World), J L a w → (∀ i o, ops[i]? = some o → L i = false → ∃ e ∈ o.after, Region.binds .any e = true ∧ L e.on = false) → Q .normal a w) :
    (Code.region id ops true).wp P Q a w := by
  refine wp_region_any hm (wpAny_inv J step fin ops.size _ a _ (by simp) ?_ ?_)
  · have h : (Array.replicate ops.size false).toList.count false ≤ (Array.replicate ops.size false).toList.length := List.count_le_length
    rw [Array.length_toList, Array.size_replicate] at h
    exact h
  · have e : (fun i => (Array.replicate ops.size false).getD i false) = fun _ => false := by
      funext i
      simp [Array.getD_eq_getD_getElem?, Array.getElem?_replicate]
      split <;> rfl
    rw [e]
    exact h0

end

end Go.Proofs.YtmnnbgciakigfaaDoor
