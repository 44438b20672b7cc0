/- append of a whole row of numbers, nil or not, to a row of its own. The teller's checked, whatever it is handed: one contract. Where a formula ends: what a well-formed formula looks like, one step. No program is in sight. IsFormula of the program and of the reference, and the statement that they agree: the walk of the law. -/
import Derived.Test.YtdgnhfhaaghoaaaGreatDoorProg
import Derived.Test.YtdgnhfhaaghoaaaGreatDoorJ6
import Derived.Test.YtdgnhfhaaghoaaaGreatDoorJ8
import Derived.Test.YtdgnhfhaaghoaaaGreatDoorJ22
import Derived.Test.YtdgnhfhaaghoaaaGreatDoorJ10
import Derived.Test.YtdgnhfhaaghoaaaGreatDoorJ1
import Derived.Test.YtdgnhfhaaghoaaaGreatDoorJ0
set_option linter.unusedSimpArgs false
set_option linter.unusedVariables false
namespace Go.Proofs.YtdgnhfhaaghoaaaGreatDoor
open Go.RowKit

theorem wpList_append_row {w : World} {ops : Array Oper} {rest : List Oper} {o : Oper} {a : Act} {Q : Exit → Act → World → Prop} (hgd : o.guard = none) (s x : Operand)
    (ho : o.op = .call { callee := .builtin .append, args := #[s, x], argTypes := #[30, 30] })
    (base B2 : Nat) (v : Value) (n : Nat) (xs : List Value) (hs : a.eval s = v) (hown : w.ownsRow base 3 1 v n xs)
    (u : Value) (m : Nat) (ys : List Value) (hx : a.eval x = u) (hu : w.ownsRow B2 3 1 u m ys) (h1 : ∀ y ∈ ys, y.oneCell' = true) (hn : n + m ≤ 1000000000) (hbase : base ≤ w.heap.size)
    (h : ∀ v' w', w'.ownsRow base 3 1 v' (n + m) (xs ++ ys) → Kept (fun q => v.ownBlock = some q) w w' → wpList Tryz.prog ops Q rest (a.put o.dst v') w') : wpList Tryz.prog ops Q (o :: rest) a w := by
  obtain ⟨i0, hi, hz0, hz1, hz2⟩ := info_parts info_ci
  rcases hu.2 with ⟨rfl, rfl⟩ | ⟨g, cap, cur, rfl, _, _, _, _⟩
  · have hy : ys = [] := by have := hu.1; simpa using this
    subst hy
    refine wpList_append_none_cap hgd s x 30 ho base 3 i0 1 Tryz.underlying30 hi v n 0 xs hs hown hx ?_
    exact h v w (by rw [List.append_nil]; exact hown) (Kept.refl _ _)
  · refine wpList_append_own _ hgd s x 30 ho base 3 i0 (.int .i64 0) 1 8 Tryz.underlying30 hi hz0 hz1 hz2 rfl (by decide) v n xs hs hown ⟨g, 0, none⟩ m cap ys hx (by have := hu.1; omega) (fun j y hj => by
      have := hu.cells (g := g) rfl j y hj
      exact this) h1 (by unfold maxLen; omega) (by omega) hbase (fun v' w' h2 h3 _ => h v' w' h2 (kept_of_grown h3))

theorem Kept.newer {S T : Nat → Prop} {w w5 w6 : World} (h : Kept S w w5) (k : Kept T w5 w6) (hT : ∀ q, T q → w.heap.size ≤ q) : Kept S w w6 :=
  ⟨k.os.trans h.os, k.tape.trans h.tape, k.output.trans h.output, Nat.le_trans h.size k.size, fun b hb hn => (k.block b (Nat.lt_of_lt_of_le hb h.size) (fun e => by have := hT b e; omega)).trans (h.block b hb hn)⟩

end Go.Proofs.YtdgnhfhaaghoaaaGreatDoor

set_option linter.unusedVariables false
namespace Go.Proofs.YtdgnhfhaaghoaaaGreatDoor
open Go.RowKit

theorem checked_any (w0 : World) (p : Nat) (sv tv rv : Value) (hp : w0.heap.size ≤ p) (B w : World) (A : Option Addr) (z : List Int) (c : Nat) (bad : Bool) (hT : Tlr w0 p sv tv rv bad w) (hpB : p < B.heap.size) (hz : z.length ≤ 1000000000000)
    (hO : w.ownsRow B.heap.size 3 1 (.slice A z.length c) z.length (ints z)) :
    Calls Tryz.prog 131 #[.pointer (some ⟨p, 0, none⟩), .slice A z.length c] w fun e w' => ∃ r, e = .returned r ∧ Kept (fun q => q = p) w w' ∧ TRes w0 p sv tv rv B w' r (if bad then none else chkF z) := by
  cases bad
  · by_cases hl : z.length ≤ 200
    · refine (checked_ok w0 p sv tv rv A z.length c w hl hT).mono ?_
      rintro e w' ⟨rfl, rfl⟩
      refine ⟨_, rfl, hT.kept hp false, ?_⟩
      rw [if_neg Bool.false_ne_true]
      unfold chkF
      rw [if_pos hl]
      exact ⟨hT.set hp false, owns_keptP hO hpB (hT.kept hp false)⟩
    · refine (checked_long w0 p sv tv rv A z.length c w (by omega) hz hT).mono ?_
      rintro e w' ⟨rfl, rfl⟩
      refine ⟨_, rfl, hT.kept hp true, ?_⟩
      rw [if_neg Bool.false_ne_true]
      unfold chkF
      rw [if_neg hl]
      exact ⟨hT.set hp true, rfl⟩
  · refine (checked_bad w0 p sv tv rv A z.length c w hT).mono ?_
    rintro e w' ⟨rfl, rfl⟩
    refine ⟨_, rfl, hT.kept hp true, ?_⟩
    rw [if_pos rfl]
    exact ⟨hT.set hp true, rfl⟩

/-- What tell and all give, as one row and one mark. -/
theorem TRes.row {w0 : World} {p : Nat} {sv tv rv : Value} {w w' : World} {r : Value} {o : Option (List Int)} (h : TRes w0 p sv tv rv w w' r o) : Tlr w0 p sv tv rv o.isNone w' ∧ w'.ownsRow w.heap.size 3 1 r (o.getD []).length (ints (o.getD [])) := by
  cases o with
  | none => obtain ⟨h1, rfl⟩ := h; exact ⟨h1, World.ownsRow_nil _ _ _ _⟩
  | some g => exact h
theorem tres_mono {w0 : World} {p : Nat} {sv tv rv : Value} {w w6 w' : World} {r : Value} {o : Option (List Int)} (h : TRes w0 p sv tv rv w6 w' r o) (hs : w.heap.size ≤ w6.heap.size) : TRes w0 p sv tv rv w w' r o := by
  cases o with
  | none => exact h
  | some g => exact ⟨h.1, owns_mono h.2 hs⟩
theorem bind_row (o : Option (List Int)) (pre : List Int) : (o.bind fun g => chkF (pre ++ g)) = if o.isNone then none else chkF (pre ++ o.getD []) := by
  cases o <;> rfl

set_option maxHeartbeats 4000000 in
/-- all, over a row of its own, nil or not. -/
theorem allO_any (w0 : World) (p : Nat) (sv tv rv : Value) (hp : w0.heap.size ≤ p) (s : Nat) (ap : Int → Option (List Int)) (hap : ∀ o a, ap o = some a → a.length ≤ 200) (Ok : Int → Prop)
    (HT : ∀ (o : Int) (w : World), Ok o → Tlr w0 p sv tv rv false w → Calls Tryz.prog 56 #[.pointer (some ⟨p, 0, none⟩), .int .i64 s, .int .i64 o] w fun e w' => ∃ r, e = .returned r ∧ Kept (fun q => q = p) w w' ∧ TRes w0 p sv tv rv w w' r (ap o))
    (os : List Int) (B : Nat) (u : Value) (w : World) (hok : ∀ x ∈ os, Ok x) (hpB : p < B) (hl : os.length ≤ 1000000) (hu : w.ownsRow B 3 1 u os.length (ints os)) (hT : Tlr w0 p sv tv rv false w) :
    Calls Tryz.prog 132 #[.pointer (some ⟨p, 0, none⟩), .int .i64 s, u] w fun e w' => ∃ r, e = .returned r ∧ Kept (fun q => q = p) w w' ∧ TRes w0 p sv tv rv w w' r (allP ap os) := by
  rcases hu.2 with ⟨rfl, e⟩ | ⟨g, cap, cur, rfl, hg, _, hc, _⟩
  · have hos : os = [] := List.length_eq_zero_iff.1 e
    subst hos
    have HO := Lib.hid (ownsRow_lit (n := 1) (w := w.alloc (.cells #[.int .i64 0] 3)) (xs := [.int .i64 0]) (heap_alloc_new _ _) rfl (by unfold maxLen; omega))
    have HT' := Lib.hid (hT.below ((Below.refl _ w).alloc (Nat.le_refl _) (.cells #[.int .i64 0] 3)))
    have HK := Lib.hid (Kept.of_below ((Below.refl _ w).alloc (Nat.le_refl _) (.cells #[.int .i64 0] 3)) (fun q => q = p))
    clear hT HT hu e
    go_enter Tryz.func132, Tryz.ntmps132
    go_wp2_with fail
    go_ret
    exact ⟨_, rfl, HK.out, HT'.out, HO.out⟩
  · refine all_any w0 p sv tv rv hp s ap hap Ok HT os g 0 cap w hok (by omega) hc hl (fun j hj => ?_) hT
    have := hu.cells (g := g) rfl j (.int .i64 (os.getD j 0)) (getElem?_ints os j hj)
    by_cases hj0 : j = 0
    · subst hj0
      simpa [Addr.add] using this
    · simpa [Addr.add, hj0] using this

/-- The facts of tell's region of the answer, by what has come up: the row [4, a] (b3), the call of all (b8), the append (b9), the call of checked (b10). -/
structure TF (w0 w6 : World) (p : Nat) (sv tv rv : Value) (bad : Bool) (a : Int) (G : List Int) (fin : Option (List Int)) (b3 b8 b9 b10 : Bool) (bb : Nat) (r v z : Value) (W : World) : Prop where
  o1 : b9 = true → b3 = true ∧ b8 = true
  o2 : b10 = true → b9 = true
  k : Kept (fun q => q = p) w6 W
  t : b10 = false → Tlr w0 p sv tv rv (b8 && bad) W
  h3 : b3 = true → b9 = false → W.ownsRow w6.heap.size 3 1 (.slice (some ⟨bb, 0, none⟩) 2 2) 2 [.int .i64 4, .int .i64 a]
  h8 : b8 = true → b9 = false → W.ownsRow w6.heap.size 3 1 r G.length (ints G)
  h9 : b9 = true → b10 = false → W.ownsRow w6.heap.size 3 1 v (4 :: a :: G).length (ints (4 :: a :: G))
  h10 : b10 = true → TRes w0 p sv tv rv w6 W z fin

section
variable {w0 w6 W W' : World} {p : Nat} {sv tv rv : Value} {bad : Bool} {a : Int} {G : List Int} {fin : Option (List Int)} {b3 b8 b9 b10 : Bool} {bb : Nat} {r v z : Value}
theorem TF.start (hT : Tlr w0 p sv tv rv false w6) (bb : Nat) (r v z : Value) : TF w0 w6 p sv tv rv bad a G fin false false false false bb r v z w6.drew :=
  { o1 := fun h => (nomatch h), o2 := fun h => (nomatch h), k := (Kept.refl _ _).drew, t := fun _ => hT.below ((Below.refl _ _).drew), h3 := fun h => (nomatch h), h8 := fun h => (nomatch h), h9 := fun h => (nomatch h), h10 := fun h => (nomatch h) }
theorem TF.build (h : TF w0 w6 p sv tv rv bad a G fin false b8 b9 b10 bb r v z W) : TF w0 w6 p sv tv rv bad a G fin true b8 b9 b10 W.heap.size r v z (W.alloc (.cells #[.int .i64 4, .int .i64 a] 3)) := by
  have e9 : b9 = false := by cases b9; rfl; exact absurd (h.o1 rfl).1 (by simp)
  have e10 : b10 = false := by cases b10; rfl; exact absurd (h.o2 rfl) (by simp [e9])
  subst e9 e10
  have hb : Below W.heap.size W (W.alloc (.cells #[.int .i64 4, .int .i64 a] 3)) := (Below.refl _ _).alloc (Nat.le_refl _) _
  exact { o1 := fun h => (nomatch h), o2 := fun h => (nomatch h), k := h.k.trans (Kept.of_below hb _), t := fun _ => (h.t rfl).below hb, h3 := fun _ _ => owns_mono (ownsRow_lit (n := 2) (xs := [.int .i64 4, .int .i64 a]) (heap_alloc_new _ _) rfl (by unfold maxLen; omega)) h.k.size, h8 := fun h1 h2 => owns_below (h.h8 h1 h2) hb (Nat.le_refl _), h9 := fun h => (nomatch h), h10 := fun h => (nomatch h) }
theorem TF.tlr0 (h : TF w0 w6 p sv tv rv bad a G fin b3 false b9 b10 bb r v z W) : Tlr w0 p sv tv rv false W := by
  have e9 : b9 = false := by cases b9; rfl; exact absurd (h.o1 rfl).2 (by simp)
  have e10 : b10 = false := by cases b10; rfl; exact absurd (h.o2 rfl) (by simp [e9])
  exact h.t e10
theorem TF.called {r' : Value} {o : Option (List Int)} (hp6 : p < w6.heap.size) (h : TF w0 w6 p sv tv rv o.isNone a (o.getD []) fin b3 false b9 b10 bb r v z W) (hk : Kept (fun q => q = p) W W') (hr : TRes w0 p sv tv rv W W' r' o) : TF w0 w6 p sv tv rv o.isNone a (o.getD []) fin b3 true b9 b10 bb r' v z W' := by
  have e9 : b9 = false := by cases b9; rfl; exact absurd (h.o1 rfl).2 (by simp)
  have e10 : b10 = false := by cases b10; rfl; exact absurd (h.o2 rfl) (by simp [e9])
  subst e9 e10
  obtain ⟨h1, h2⟩ := hr.row
  exact { o1 := fun h => (nomatch h), o2 := fun h => (nomatch h), k := h.k.trans hk, t := fun _ => by rw [Bool.true_and]; exact h1, h3 := fun h1 h2 => owns_keptP (h.h3 h1 h2) hp6 hk, h8 := fun _ _ => owns_mono h2 h.k.size, h9 := fun h => (nomatch h), h10 := fun h => (nomatch h) }
theorem TF.appended {v' : Value} (h : TF w0 w6 p sv tv rv bad a G fin true true false b10 bb r v z W) (hp6 : p < w6.heap.size) (h06 : w0.heap.size ≤ w6.heap.size) (ho : W'.ownsRow w6.heap.size 3 1 v' (2 + G.length) ([.int .i64 4, .int .i64 a] ++ ints G)) (hk : Kept (fun q => (Value.slice (some ⟨bb, 0, none⟩) 2 2).ownBlock = some q) W W') : TF w0 w6 p sv tv rv bad a G fin true true true b10 bb r v' z W' := by
  have e10 : b10 = false := by cases b10; rfl; exact absurd (h.o2 rfl) (by simp)
  subst e10
  have hlt := h.h3 rfl rfl
  have e1 : (4 :: a :: G).length = 2 + G.length := by simp; omega
  have e2 : ints (4 :: a :: G) = [.int .i64 4, .int .i64 a] ++ ints G := by simp [ints]
  exact { o1 := fun _ => ⟨rfl, rfl⟩, o2 := fun h => (nomatch h), k := h.k.newer hk (fun q hq => (hlt.lt q hq).1), t := fun _ => (h.t rfl).keptS hk (fun q hq => by have := (hlt.lt q hq).1; omega) (fun e => by have := (hlt.lt p e).1; omega), h3 := fun _ h => (nomatch h), h8 := fun _ h => (nomatch h), h9 := fun _ _ => by rw [e1, e2]; exact ho, h10 := fun h => (nomatch h) }
theorem TF.checked {z' : Value} (h : TF w0 w6 p sv tv rv bad a G fin b3 b8 true false bb r v z W) (hk : Kept (fun q => q = p) W W') (hr : TRes w0 p sv tv rv w6 W' z' fin) : TF w0 w6 p sv tv rv bad a G fin b3 b8 true true bb r v z' W' :=
  { o1 := fun _ => h.o1 rfl, o2 := fun _ => rfl, k := h.k.trans hk, t := fun h => (nomatch h), h3 := fun _ h => (nomatch h), h8 := fun _ h => (nomatch h), h9 := fun _ h => (nomatch h), h10 := fun _ => hr }
end

end Go.Proofs.YtdgnhfhaaghoaaaGreatDoor

set_option linter.unusedVariables false
namespace Go.Proofs.YtdgnhfhaaghoaaaGreatDoor
open Go.RowKit

theorem fEnd_pos {n : Nat} {f : List Int} {p : Int} (h : 0 ≤ fEnd n f p) : p < fEnd n f p ∧ fEnd n f p ≤ f.length := by
  rcases fEnd_bd n f p with h' | h'
  · omega
  · exact h'
theorem fEnd_p0 {n : Nat} {f : List Int} {p : Int} (h : 0 ≤ fEnd n f p) : 0 ≤ p ∧ p < f.length := by
  cases n with
  | zero => simp [fEnd] at h
  | succ n =>
    unfold fEnd at h
    split at h
    · omega
    · omega

/-- What a well-formed formula at k looks like, one step. -/
theorem fEnd_step {n : Nat} {f : List Int} {k : Nat} (h : 0 ≤ fEnd (n + 1) f k) :
    (f.getD k 0 = 0 ∧ fEnd (n + 1) f k = k + 1) ∨
    (f.getD k 0 = 1 ∧ k + 1 < f.length ∧ 0 ≤ f.getD (k + 1) 0 ∧ f.getD (k + 1) 0 ≤ 7 ∧ fEnd (n + 1) f k = k + 2) ∨
    (f.getD k 0 = 2 ∧ fEnd (n + 1) f k = fEnd n f (k + 1)) ∨
    (f.getD k 0 = 3 ∧ 0 ≤ fEnd n f (k + 1) ∧ fEnd (n + 1) f k = fEnd n f (fEnd n f (k + 1))) ∨
    (f.getD k 0 = 4 ∧ k + 1 < f.length ∧ 0 ≤ f.getD (k + 1) 0 ∧ f.getD (k + 1) 0 ≤ 7 ∧ fEnd (n + 1) f k = fEnd n f (k + 2)) := by
  have hk := fEnd_p0 h
  have e := fEnd_eq n f k (by omega)
  rw [e] at h ⊢
  split at h
  · rename_i hx
    rw [if_pos hx]
    exact .inl ⟨by simpa using hx, rfl⟩
  · rename_i hx
    rw [if_neg hx]
    split at h
    · rename_i hy
      rw [if_pos hy]
      split at h
      · rename_i hz
        rw [if_pos hz]
        simp only [Bool.and_eq_true, decide_eq_true_eq] at hz
        have := inB_true hz.2
        exact .inr (.inl ⟨by simpa using hy, by omega, this.1, this.2, rfl⟩)
      · omega
    · rename_i hy
      rw [if_neg hy]
      split at h
      · rename_i hz
        rw [if_pos hz]
        exact .inr (.inr (.inl ⟨by simpa using hz, rfl⟩))
      · rename_i hz
        rw [if_neg hz]
        split at h
        · rename_i hu
          rw [if_pos hu]
          have h' := fEnd_p0 h
          exact .inr (.inr (.inr (.inl ⟨by simpa using hu, h'.1, rfl⟩)))
        · rename_i hu
          rw [if_neg hu]
          split at h
          · rename_i hv
            rw [if_pos hv]
            split at h
            · rename_i hw
              rw [if_pos hw]
              simp only [Bool.and_eq_true, decide_eq_true_eq] at hw
              have := inB_true hw.2
              exact .inr (.inr (.inr (.inr ⟨by simpa using hv, by omega, this.1, this.2, rfl⟩)))
            · omega
          · omega

end Go.Proofs.YtdgnhfhaaghoaaaGreatDoor

set_option linter.unusedVariables false
namespace Go.Proofs.YtdgnhfhaaghoaaaGreatDoor
open Go.RowKit

theorem Ints.of_cells {w : World} {A : Option Addr} {f : List Int} (h : Cells w A (ints f)) : Ints w A f := fun j hj => by
  obtain ⟨b, o, e, hc⟩ := h.int hj
  exact ⟨b, o, e, hc j hj⟩

/-- Whether a list is a formula. -/
def isF (f : List Int) : Bool := inB f.length 1 200 && (fEnd f.length f 0 == (f.length : Int))

set_option maxHeartbeats 400000 in
theorem implIsFormula_any (A : Option Addr) (c : Nat) (f : List Int) (w : World) (hn : f.length ≤ 1048576) (hA : Cells w A (ints f)) :
    Calls Tryz.prog 27 #[.slice A f.length c] w fun e w' => e = .returned (.bool (isF f)) ∧ w = w' := by
  have HF := Lib.hid (formulaEnd_any A c f hn w (.of_cells hA) f.length 0 (by omega) (by omega) (by omega))
  unfold isF
  go_enter Tryz.func27, Tryz.ntmps27
  go_wp2_with (first
    | ((with_reducible refine (within_any ..).mono ?_); rintro e w' ⟨rfl, rfl⟩)
    | ((with_reducible refine HF.out.mono ?_); rintro e w' ⟨rfl, rfl⟩))
  all_goals (go_ret; refine ⟨congrArg (fun z => Ending.returned (.bool z)) ?_, rfl⟩; simp only [*, Bool.false_and, Bool.true_and]; try rfl)

theorem sameI_refl (xs : List Int) : sameI xs xs = true := by simp [sameI]

end Go.Proofs.YtdgnhfhaaghoaaaGreatDoor
