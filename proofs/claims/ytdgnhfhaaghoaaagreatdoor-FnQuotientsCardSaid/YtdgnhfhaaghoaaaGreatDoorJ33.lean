/- Systems: the program's states in which ways from a state end, walked (of a system, its states' number and its steps alone). The teller in memory; its small functions walked: checked, ends, marks; functions looked for in a slice of numbers. The teller's function literals; slices.ContainsFunc at numbers: walked. The teller's conjunction of formulas, walked, by what tell gives. append of a whole row of numbers, nil or not, to a row of its own. The teller's checked, whatever it is handed: one contract. Where a formula ends: what a well-formed formula looks like, one step. No program is in sight. IsFormula of the program and of the reference, and the statement that they agree: the walk of the law. Which states satisfy a formula: program walked. Formulas as trees. Plain law: what a formula in a list tells of the states, and that the formula that tells apart does so. Labelled systems: the formula that tells two states apart is one, the first state satisfies it, and the second one does not. Plain law. -/
import Derived.Test.YtdgnhfhaaghoaaaGreatDoorProg
import Derived.Test.YtdgnhfhaaghoaaaGreatDoorJ32
import Derived.Test.YtdgnhfhaaghoaaaGreatDoorJ2
import Derived.Test.YtdgnhfhaaghoaaaGreatDoorJ14
import Derived.Test.YtdgnhfhaaghoaaaGreatDoorJ30
import Derived.Test.YtdgnhfhaaghoaaaGreatDoorJ11
import Derived.Test.YtdgnhfhaaghoaaaGreatDoorJ7
import Derived.Test.YtdgnhfhaaghoaaaGreatDoorJ18
import Derived.Test.YtdgnhfhaaghoaaaGreatDoorJ0
set_option linter.unusedSimpArgs false
set_option linter.unusedVariables false
namespace Go.Proofs.YtdgnhfhaaghoaaaGreatDoor
open Go.RowKit

theorem hbel2 {B g : Nat} {a w w' : World} (hb : Below B a w) (hg : w.grownBy w' (some g)) (h : B ≤ g) (hB : B ≤ w.heap.size) : Below B a w' :=
  hb.grown hg hB (fun q hq => by cases hq; exact h)

end Go.Proofs.YtdgnhfhaaghoaaaGreatDoor

set_option linter.unusedVariables false
namespace Go.Proofs.YtdgnhfhaaghoaaaGreatDoor
open Go.RowKit

/-- A teller in block p, over a world w0 that has not turned. -/
structure Tlr (w0 : World) (p : Nat) (sv tv rv : Value) (bad : Bool) (w : World) : Prop where
  b : Below w0.heap.size w0 w
  c : w.heap[p]? = some (.cells #[sv, tv, rv, .bool bad] 72)

section
variable {w0 w w' : World} {p : Nat} {sv tv rv : Value} {bad : Bool}
theorem Tlr.lt (h : Tlr w0 p sv tv rv bad w) : p < w.heap.size := (Array.getElem?_eq_some_iff.1 h.c).1
theorem Tlr.below (h : Tlr w0 p sv tv rv bad w) (hb : Below w.heap.size w w') : Tlr w0 p sv tv rv bad w' := ⟨h.b.trans (hb.mono h.b.size), (hb.block _ h.lt).trans h.c⟩
theorem Tlr.set (h : Tlr w0 p sv tv rv bad w) (hp : w0.heap.size ≤ p) (b : Bool) : Tlr w0 p sv tv rv b (w.setCell ⟨p, 3, none⟩ (.bool b)) :=
  ⟨h.b.setCell hp _, heap_setCell_same w p 3 _ _ (.bool b) h.c⟩
theorem Tlr.kept (h : Tlr w0 p sv tv rv bad w) (hp : w0.heap.size ≤ p) (b : Bool) : Kept (fun q => q = p) w (w.setCell ⟨p, 3, none⟩ (.bool b)) := (Kept.refl _ w).setCell (S := fun q => q = p) (p := ⟨p, 3, none⟩) rfl _
theorem owns_keptP {B : Nat} {e : TypeId} {s : Nat} {v : Value} {n : Nat} {xs : List Value} (h : w.ownsRow B e s v n xs) (hp : p < B) (hk : Kept (fun q => q = p) w w') : w'.ownsRow B e s v n xs := owns_kept h hk (fun g hg e => by have := (h.lt g hg).1; omega)
end

end Go.Proofs.YtdgnhfhaaghoaaaGreatDoor

set_option linter.unusedVariables false
namespace Go.Proofs.YtdgnhfhaaghoaaaGreatDoor
open Go.RowKit

end Go.Proofs.YtdgnhfhaaghoaaaGreatDoor

set_option linter.unusedVariables false
namespace Go.Proofs.YtdgnhfhaaghoaaaGreatDoor
open Go.RowKit

/-- What tell and all give: the formula, in new memory, or nothing, and the mark that it has become too long. -/
def TRes (w0 : World) (p : Nat) (sv tv rv : Value) (w w' : World) (r : Value) : Option (List Int) → Prop
  | some g => Tlr w0 p sv tv rv false w' ∧ w'.ownsRow w.heap.size 3 1 r g.length (ints g)
  | none => Tlr w0 p sv tv rv true w' ∧ r = .slice none 0 0

end Go.Proofs.YtdgnhfhaaghoaaaGreatDoor

set_option linter.unusedVariables false
namespace Go.Proofs.YtdgnhfhaaghoaaaGreatDoor
open Go.RowKit

theorem Kept.newer {S T : Nat → Prop} {w w5 w6 : World} (h : Kept S w w5) (k : Kept T w5 w6) (hT : ∀ q, T q → w.heap.size ≤ q) : Kept S w w6 :=
  ⟨k.os.trans h.os, k.tape.trans h.tape, k.output.trans h.output, Nat.le_trans h.size k.size, fun b hb hn => (k.block b (Nat.lt_of_lt_of_le hb h.size) (fun e => by have := hT b e; omega)).trans (h.block b hb hn)⟩

end Go.Proofs.YtdgnhfhaaghoaaaGreatDoor

set_option linter.unusedVariables false
namespace Go.Proofs.YtdgnhfhaaghoaaaGreatDoor
open Go.RowKit

/-- What tell and all give, as one row and one mark. -/
theorem TRes.row {w0 : World} {p : Nat} {sv tv rv : Value} {w w' : World} {r : Value} {o : Option (List Int)} (h : TRes w0 p sv tv rv w w' r o) : Tlr w0 p sv tv rv o.isNone w' ∧ w'.ownsRow w.heap.size 3 1 r (o.getD []).length (ints (o.getD [])) := by
  cases o with
  | none => obtain ⟨h1, rfl⟩ := h; exact ⟨h1, World.ownsRow_nil _ _ _ _⟩
  | some g => exact h
/-- The facts of tell's region of the answer, by what has come up: the row [4, a] (b3), the call of all (b8), the append (b9), the call of checked (b10). -/
structure TF (w0 w6 : World) (p : Nat) (sv tv rv : Value) (bad : Bool) (a : Int) (G : List Int) (fin : Option (List Int)) (b3 b8 b9 b10 : Bool) (bb : Nat) (r v z : Value) (W : World) : Prop where
  o1 : b9 = true → b3 = true ∧ b8 = true
  o2 : b10 = true → b9 = true
  k : Kept (fun q => q = p) w6 W
  t : b10 = false → Tlr w0 p sv tv rv (b8 && bad) W
  h3 : b3 = true → b9 = false → W.ownsRow w6.heap.size 3 1 (.slice (some ⟨bb, 0, none⟩) 2 2) 2 [.int .i64 4, .int .i64 a]
  h8 : b8 = true → b9 = false → W.ownsRow w6.heap.size 3 1 r G.length (ints G)
  h9 : b9 = true → b10 = false → W.ownsRow w6.heap.size 3 1 v (4 :: a :: G).length (ints (4 :: a :: G))
  h10 : b10 = true → TRes w0 p sv tv rv w6 W z fin

section
variable {w0 w6 W W' : World} {p : Nat} {sv tv rv : Value} {bad : Bool} {a : Int} {G : List Int} {fin : Option (List Int)} {b3 b8 b9 b10 : Bool} {bb : Nat} {r v z : Value}
theorem TF.start (hT : Tlr w0 p sv tv rv false w6) (bb : Nat) (r v z : Value) : TF w0 w6 p sv tv rv bad a G fin false false false false bb r v z w6.drew :=
  { o1 := fun h => (nomatch h), o2 := fun h => (nomatch h), k := (Kept.refl _ _).drew, t := fun _ => hT.below ((Below.refl _ _).drew), h3 := fun h => (nomatch h), h8 := fun h => (nomatch h), h9 := fun h => (nomatch h), h10 := fun h => (nomatch h) }
theorem TF.build (h : TF w0 w6 p sv tv rv bad a G fin false b8 b9 b10 bb r v z W) : TF w0 w6 p sv tv rv bad a G fin true b8 b9 b10 W.heap.size r v z (W.alloc (.cells #[.int .i64 4, .int .i64 a] 3)) := by
  have e9 : b9 = false := by cases b9; rfl; exact absurd (h.o1 rfl).1 (by simp)
  have e10 : b10 = false := by cases b10; rfl; exact absurd (h.o2 rfl) (by simp [e9])
  subst e9 e10
  have hb : Below W.heap.size W (W.alloc (.cells #[.int .i64 4, .int .i64 a] 3)) := (Below.refl _ _).alloc (Nat.le_refl _) _
  exact { o1 := fun h => (nomatch h), o2 := fun h => (nomatch h), k := h.k.trans (Kept.of_below hb _), t := fun _ => (h.t rfl).below hb, h3 := fun _ _ => owns_mono (ownsRow_lit (n := 2) (xs := [.int .i64 4, .int .i64 a]) (heap_alloc_new _ _) rfl (by unfold maxLen; omega)) h.k.size, h8 := fun h1 h2 => owns_below (h.h8 h1 h2) hb (Nat.le_refl _), h9 := fun h => (nomatch h), h10 := fun h => (nomatch h) }
theorem TF.called {r' : Value} {o : Option (List Int)} (hp6 : p < w6.heap.size) (h : TF w0 w6 p sv tv rv o.isNone a (o.getD []) fin b3 false b9 b10 bb r v z W) (hk : Kept (fun q => q = p) W W') (hr : TRes w0 p sv tv rv W W' r' o) : TF w0 w6 p sv tv rv o.isNone a (o.getD []) fin b3 true b9 b10 bb r' v z W' := by
  have e9 : b9 = false := by cases b9; rfl; exact absurd (h.o1 rfl).2 (by simp)
  have e10 : b10 = false := by cases b10; rfl; exact absurd (h.o2 rfl) (by simp [e9])
  subst e9 e10
  obtain ⟨h1, h2⟩ := hr.row
  exact { o1 := fun h => (nomatch h), o2 := fun h => (nomatch h), k := h.k.trans hk, t := fun _ => by rw [Bool.true_and]; exact h1, h3 := fun h1 h2 => owns_keptP (h.h3 h1 h2) hp6 hk, h8 := fun _ _ => owns_mono h2 h.k.size, h9 := fun h => (nomatch h), h10 := fun h => (nomatch h) }
theorem TF.checked {z' : Value} (h : TF w0 w6 p sv tv rv bad a G fin b3 b8 true false bb r v z W) (hk : Kept (fun q => q = p) W W') (hr : TRes w0 p sv tv rv w6 W' z' fin) : TF w0 w6 p sv tv rv bad a G fin b3 b8 true true bb r v z' W' :=
  { o1 := fun _ => h.o1 rfl, o2 := fun _ => rfl, k := h.k.trans hk, t := fun h => (nomatch h), h3 := fun _ h => (nomatch h), h8 := fun _ h => (nomatch h), h9 := fun _ h => (nomatch h), h10 := fun _ => hr }
end

end Go.Proofs.YtdgnhfhaaghoaaaGreatDoor

set_option linter.unusedVariables false
namespace Go.Proofs.YtdgnhfhaaghoaaaGreatDoor
open Go.RowKit

end Go.Proofs.YtdgnhfhaaghoaaaGreatDoor

set_option linter.unusedVariables false
namespace Go.Proofs.YtdgnhfhaaghoaaaGreatDoor
open Go.RowKit

theorem sameI_refl (xs : List Int) : sameI xs xs = true := by simp [sameI]

end Go.Proofs.YtdgnhfhaaghoaaaGreatDoor

set_option linter.unusedVariables false
namespace Go.Proofs.YtdgnhfhaaghoaaaGreatDoor
open Go.RowKit

abbrev bools (bs : List Bool) : List Value := bs.map Value.bool

theorem info_bool : (Tryz.prog.info? 4).map (fun i => (i.zero, i.size, i.bytes)) = some (some (.bool false), 1, 1) := by kernel_rfl

theorem fill_start (n : Nat) (res : List Bool) (h : res.length = n) : (madeCells (Value.bool false).cells (n * 1)).toList = bools (fillV res false 0) := by
  show (madeCells #[_] _).toList = _
  rw [toList_madeCells_one, Nat.mul_one, fillV_zero, h]
  simp

theorem fill_step {wr : World} {B0 g n k : Nat} {e : TypeId} {res : List Bool} {x : Bool} (hown : wr.ownsRow B0 e 1 (.slice (some ⟨g, 0, none⟩) n n) n (bools (fillV res false k))) (hl : res.length = n) (hk : k < n) (hx : res[k]? = some x) :
    wr.cell? ⟨g, k, none⟩ = some (.bool false) ∧ wr.frozen? ⟨g, k, none⟩ = false ∧ (wr.setCell ⟨g, k, none⟩ (.bool x)).ownsRow B0 e 1 (.slice (some ⟨g, 0, none⟩) n n) n (bools (fillV res false (k + 1))) := by
  have hcell := hown.cellAt k (by omega)
  have hv : (bools (fillV res false k))[k]? = some (.bool false) := by
    have e1 : bools (fillV res false k) = bools (res.take k) ++ bools (List.replicate (res.length - k) false) := by simp [fillV, bools]
    rw [e1, List.getElem?_append_right (by simp; omega), List.getElem?_map, List.getElem?_replicate, if_pos (by simp; omega)]
    rfl
  rw [hv] at hcell
  refine ⟨hcell, hown.frozenAt k, ?_⟩
  have hst := (hown.stored k (.bool x)).1
  have e2 : (bools (fillV res false k)).set k (.bool x) = bools (fillV res false (k + 1)) := by
    rw [← fillV_set res false x k (by omega) hx]
    simp [List.map_set]
  rwa [e2] at hst

theorem fill_end {res : List Bool} {n : Nat} (h : res.length = n) : bools (fillV res false n) = bools res := by rw [fillV_all' h]

end Go.Proofs.YtdgnhfhaaghoaaaGreatDoor

set_option linter.unusedVariables false
namespace Go.Proofs.YtdgnhfhaaghoaaaGreatDoor

inductive Fo where
  | tt : Fo
  | mk : Nat → Fo
  | no : Fo → Fo
  | an : Fo → Fo → Fo
  | ca : Nat → Fo → Fo

def Fo.code : Fo → List Int
  | .tt => [0]
  | .mk m => [1, (m : Int)]
  | .no a => 2 :: a.code
  | .an a b => 3 :: (a.code ++ b.code)
  | .ca x a => 4 :: (x : Int) :: a.code
/-- Marks and actions are in range. -/
def Fo.ok : Fo → Prop
  | .tt => True
  | .mk m => m < 8
  | .no a => a.ok
  | .an a b => a.ok ∧ b.ok
  | .ca x a => x < 8 ∧ a.ok
def Fo.sat (l : Lab) : Fo → Nat → Bool
  | .tt, _ => true
  | .mk m, i => hasI (l.shows.getD i []) (m : Int)
  | .no a, i => !a.sat l i
  | .an a b, i => a.sat l i && b.sat l i
  | .ca x a, i => l.steps.any fun s => (s.1 == (i : Int)) && (s.2.1 == (x : Int)) && a.sat l s.2.2.toNat
def Fo.rows (l : Lab) (a : Fo) : List Bool := (List.range l.shows.length).map (a.sat l)

end Go.Proofs.YtdgnhfhaaghoaaaGreatDoor

set_option linter.unusedVariables false
namespace Go.Proofs.YtdgnhfhaaghoaaaGreatDoor

theorem last_stable (l : Lab) (h0 : 1 ≤ l.shows.length) : partsL l (l.shows.length + 1) = lastL l := by
  by_cases h : ∃ m, m ≤ l.shows.length ∧ partsL l (m + 1) = partsL l m
  · obtain ⟨m, hm, e⟩ := h
    rw [parts_stay l e _ (by omega)]
    exact (parts_stay l e _ hm).symm
  · have := rounds_le l h0 (k := l.shows.length) fun j hj e => h ⟨j, by omega, e⟩
    omega

/-- What a well-formed labelled system gives. -/
structure GoodL (l : Lab) : Prop where
  some_ : 1 ≤ l.shows.length
  steps : ∀ s ∈ l.steps, ∃ i j : Nat, s.1 = (i : Int) ∧ s.2.2 = (j : Int) ∧ i < l.shows.length ∧ j < l.shows.length
  acts : ∀ s ∈ l.steps, 0 ≤ s.2.1 ∧ s.2.1 < 8
  marks : ∀ i, i < l.shows.length → (l.shows.getD i []).Pairwise (· < ·) ∧ ∀ x ∈ l.shows.getD i [], 0 ≤ x ∧ x < 8

end Go.Proofs.YtdgnhfhaaghoaaaGreatDoor
