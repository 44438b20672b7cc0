/- The ends of a state's steps with an action, and a relation of numbers told as a table. No program is in sight. -/
import Derived.Test.YtojdobpmknadhaaDoorLab
import Derived.Test.YtojdobpmknadhaaDoorSimL
set_option linter.unusedVariables false
namespace Go.Proofs.YtojdobpmknadhaaDoor

/-- The reference: the ends of a state's steps with an action. -/
def nextA (ss : List I3) (i a : Int) : List Int := (ss.filter fun s => (s.1 == i) && (s.2.1 == a)).map fun s => s.2.2
theorem nextA_take {l : List I3} {k : Nat} (p a : Int) (h : k < l.length) : nextA (l.take (k + 1)) p a = if (l[k].1 == p) && (l[k].2.1 == a) then nextA (l.take k) p a ++ [l[k].2.2] else nextA (l.take k) p a := by
  unfold nextA
  rw [List.take_succ_eq_append_getElem h, List.filter_append, List.map_append]
  by_cases e : ((l[k].1 == p) && (l[k].2.1 == a)) <;> simp [e]
theorem nextA_len (l : List I3) (p a : Int) (k : Nat) : (nextA (l.take k) p a).length ≤ k := by
  unfold nextA
  rw [List.length_map]
  exact Nat.le_trans (List.length_filter_le _ _) (by rw [List.length_take]; omega)
theorem nextA_all (l : List I3) (p a : Int) : (nextA l p a).length ≤ l.length := by
  have := nextA_len l p a l.length
  rwa [List.take_length] at this

def inR (n : Nat) (a : Int) : Bool := decide (0 ≤ a) && decide (a < n)
/-- A table as a relation of numbers. -/
def relF (n : Nat) (f : Nat → Nat → Bool) (a b : Int) : Bool := inR n a && inR n b && f a.toNat b.toNat
theorem relF_at {n : Nat} {f : Nat → Nat → Bool} {i j : Nat} (hi : i < n) (hj : j < n) : relF n f i j = f i j := by
  have h1 : (i : Int) < n := by omega
  have h2 : (j : Int) < n := by omega
  simp [relF, inR, h1, h2, Int.natCast_nonneg]
theorem relF_in {n : Nat} {f : Nat → Nat → Bool} {a b : Int} (h : relF n f a b = true) : ∃ i j : Nat, a = (i : Int) ∧ b = (j : Int) ∧ i < n ∧ j < n ∧ f i j = true := by
  unfold relF inR at h
  simp only [Bool.and_eq_true, decide_eq_true_eq] at h
  exact ⟨a.toNat, b.toNat, by omega, by omega, by omega, by omega, h.2⟩

/-- A step of s is answered by one of t. -/
def ansB (ss : List I3) (t : Int) (rel : Int → Int → Bool) (a : I3) : Bool := (nextA ss t a.2.1).any fun x => rel a.2.2 x
theorem fol_ans {ss : List I3} {s t : Int} {rel : Int → Int → Bool} : folB ss s t rel = ss.all fun a => !(a.1 == s) || ansB ss t rel a := by
  unfold folB ansB nextA
  congr 1
  funext a
  congr 1
  rw [List.any_map, List.any_filter]
  rfl

end Go.Proofs.YtojdobpmknadhaaDoor
