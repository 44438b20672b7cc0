/- append of a slice that is read, nil or not, to a row of one's own. No program is in sight. -/
import Derived.Test.YtijkdpdmclkmlaaGreatDoorProg
import Derived.Test.YtijkdpdmclkmlaaGreatDoorJ2
import Derived.Maps.AppendAt
set_option linter.unusedSimpArgs false
set_option linter.unusedVariables false
set_option maxRecDepth 100000
set_option maxHeartbeats 16000000
namespace Go.Proofs.YtijkdpdmclkmlaaGreatDoor
open Go.RowKit
theorem cells_at_add {w : World} {ad : Addr} {cs : List Value} (h : Cells w (some ad) cs) : ∀ j u, cs[j]? = some u → w.cell? (ad.add j) = some u := by
  intro j u hj
  obtain ⟨b, o, e, hc⟩ := h.at_ (List.getElem?_eq_some_iff.1 hj).1
  injection e with e
  subst e
  rw [Addr.add_lit]
  exact hc j u hj
theorem cells_nil_of {w : World} {cs : List Value} (h : Cells w none cs) : cs = [] := by
  cases cs with
  | nil => rfl
  | cons x r =>
    obtain ⟨b, o, e, _⟩ := h.at_ (k := 0) (by simp)
    cases e
theorem run_append_nil {P : Program} {w : World} (base : Nat) (t ty e : TypeId) (i : TypeInfo) (size : Nat) (ht : P.underlying t = some (.slice e)) (hi : P.info? e = some i) (v : Value) (n c : Nat) (xs : List Value) (hown : w.ownsRow base e size v n xs) :
    (Builtin.append_ #[t, t] ty #[v, .slice none 0 c]).run P w = .ok v w := by
  rcases hown.2 with ⟨rfl, rfl⟩ | ⟨g, cap, cur, rfl, _, _, hnc, _, _, _⟩
  · simp [Builtin.append_, run_underlying ht, sizeOf, typeInfo, hi, Builtin.lenOf, Builtin.firstCells]
  simp [Builtin.append_, run_underlying ht, sizeOf, typeInfo, hi, Builtin.lenOf, Builtin.firstCells, hnc, storeCells]

theorem run_appC {P : Program} {w : World} {t ty e : TypeId} {size bytes : Nat} (el : El P t e size bytes) (base : Nat) (v : Value) (n : Nat) (xs : List Value) (hown : w.ownsRow base e size v n xs)
    (A : Option Addr) (m c : Nat) (ys : List Value) (hl : ys.length = m * size) (hA : Cells w A ys) (h1 : ∀ u ∈ ys, u.oneCell' = true) (hn : (n + m) * bytes ≤ 140737488355328 ∧ n + m ≤ 4611686018427387904) (hbase : base ≤ w.heap.size) :
    ∃ v' w', (Builtin.append_ #[t, t] ty #[v, .slice A m c]).run P w = .ok v' w' ∧ w'.ownsRow base e size v' (n + m) (xs ++ ys) ∧ Kept (fun q => v.ownBlock = some q) w w' ∧ Moved w v v' := by
  obtain ⟨ht, i, z, hi, hz, hs, hb, hzs, h0⟩ := el
  cases A with
  | none =>
    have hy := cells_nil_of hA
    subst hy
    have hm : m = 0 := by
      rcases Nat.eq_zero_or_pos m with h | h
      · exact h
      have h2 : 0 < m * size := Nat.mul_pos h h0
      simp only [List.length_nil] at hl
      omega
    subst hm
    exact ⟨v, w, run_append_nil base t ty e i size ht hi v n c xs hown, by rw [List.append_nil]; exact hown, Kept.refl _ _, fun q hq => .inl hq⟩
  | some ad =>
    obtain ⟨v', w', hr, r1, r2, _, r4⟩ := run_append_own_at (P := P) w base t ty e i z size bytes ht hi hz hs hb hzs h0 v n xs hown ad m c ys hl (cells_at_add hA) h1 (by unfold maxLen; omega) hn.1 hbase
    refine ⟨v', w', hr, r1, kept_of_grown r2, fun q hq => ?_⟩
    rcases r4 with h | h
    · exact .inl (by rw [← h]; exact hq)
    rw [h] at hq; injection hq with hq; exact .inr (by omega)

section
variable {P : Program} {W : World} {ops : Array Oper} {rest : List Oper} {o : Oper} {a : Act} {Q : Exit → Act → World → Prop}
theorem wpList_appC {t e : TypeId} {size bytes : Nat} (el : El P t e size bytes) (hgd : o.guard = none) (s x : Operand)
    (ho : o.op = .call { callee := .builtin .append, args := #[s, x], argTypes := #[t, t] })
    (base : Nat) (v : Value) (n : Nat) (xs : List Value) (hs : a.eval s = v) (hown : W.ownsRow base e size v n xs)
    (A : Option Addr) (m c : Nat) (ys : List Value) (hx : a.eval x = .slice A m c) (hl : ys.length = m * size) (hA : Cells W A ys) (h1 : ∀ u ∈ ys, u.oneCell' = true)
    (hn : (n + m) * bytes ≤ 140737488355328 ∧ n + m ≤ 4611686018427387904) (hbase : base ≤ W.heap.size)
    (h : ∀ v' w', w'.ownsRow base e size v' (n + m) (xs ++ ys) → Kept (fun q => v.ownBlock = some q) W w' → Moved W v v' → wpList P ops Q rest (a.put o.dst v') w') :
    wpList P ops Q (o :: rest) a W := by
  obtain ⟨v', w', hr, r1, r2, r3⟩ := run_appC (P := P) (ty := o.type) el base v n xs hown A m c ys hl hA h1 hn hbase
  refine wpList_plain hgd fun K hK' => ?_
  unfold Oper.wp
  simp [execOp, ho, resolve, invoke, builtin, hs, hx, hr, Result.andThen]
  exact hK' _ _ (h v' w' r1 r2 r3)

/-- .. as one operation of a region. -/
theorem step_appC {Y} {K : Act → World → Prop} {G : Prop} {t e : TypeId} {size bytes : Nat} (el : El P t e size bytes) (hgd : o.guard = none) (s x : Operand)
    (ho : o.op = .call { callee := .builtin .append, args := #[s, x], argTypes := #[t, t] })
    (base : Nat) (v : Value) (n : Nat) (xs : List Value) (hs : a.eval s = v) (hown : W.ownsRow base e size v n xs)
    (A : Option Addr) (m c : Nat) (ys : List Value) (hx : a.eval x = .slice A m c) (hl : ys.length = m * size) (hA : Cells W A ys) (h1 : ∀ u ∈ ys, u.oneCell' = true)
    (hn : (n + m) * bytes ≤ 140737488355328 ∧ n + m ≤ 4611686018427387904) (hbase : base ≤ W.heap.size)
    (h : ∀ v' w', w'.ownsRow base e size v' (n + m) (xs ++ ys) → Kept (fun q => v.ownBlock = some q) W w' → Moved W v v' → K (a.put o.dst v') w') : if Region.wanted o Y = true then Oper.wp P o a W K Q else G := by
  obtain ⟨v', w', hr, r1, r2, r3⟩ := run_appC (P := P) (ty := o.type) el base v n xs hown A m c ys hl hA h1 hn hbase
  rw [if_pos (by simp [Region.wanted, hgd])]
  unfold Oper.wp
  simp [execOp, ho, resolve, invoke, builtin, hs, hx, hr]
  exact h v' w' r1 r2 r3
end

end Go.Proofs.YtijkdpdmclkmlaaGreatDoor
