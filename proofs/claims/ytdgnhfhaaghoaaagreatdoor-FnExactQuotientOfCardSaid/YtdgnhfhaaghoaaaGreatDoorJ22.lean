/- slices.Clone at numbers and at triples: library walked. Labelled systems joined: the helpers of the law and of the reference, walked. -/
import Derived.Test.YtdgnhfhaaghoaaaGreatDoorProg
import Derived.Test.YtdgnhfhaaghoaaaGreatDoorJ10
import Derived.Lib.SliceRun
import Derived.Test.YtdgnhfhaaghoaaaGreatDoorJ21
import Derived.Laws.AppendOwnNone
set_option linter.unusedVariables false
namespace Go.Proofs.YtdgnhfhaaghoaaaGreatDoor
open Go.RowKit

theorem info_ci : (Tryz.prog.info? 3).map (fun i => (i.zero, i.size, i.bytes)) = some (some (.int .i64 0), 1, 8) := by kernel_rfl

theorem ints_one (xs : List Int) : ∀ u ∈ ints xs, u.oneCell' = true := by
  intro u hu
  obtain ⟨x, _, rfl⟩ := List.mem_map.1 hu
  rfl
theorem tri_one (l : List I3) : ∀ u ∈ l.flatMap tri, u.oneCell' = true := by
  intro u hu
  obtain ⟨t, _, ht⟩ := List.mem_flatMap.1 hu
  simp [tri] at ht
  rcases ht with rfl | rfl | rfl <;> rfl

theorem cells_add {w : World} {ad : Addr} {cs : List Value} (h : Cells w (some ad) cs) : ∀ j u, cs[j]? = some u → w.cell? (ad.add j) = some u := by
  intro j u hj
  obtain ⟨b, o, e, hc⟩ := h.at_ (List.getElem?_eq_some_iff.1 hj).1
  injection e with e
  subst e
  rw [Addr.add_lit]
  exact hc j u hj

set_option maxRecDepth 100000 in
set_option maxHeartbeats 2000000 in
theorem cloneI_any (A : Option Addr) (c : Nat) (xs : List Int) (w : World) (hn : xs.length ≤ 16777216) (hA : Cells w A (ints xs)) :
    Calls Tryz.prog 87 #[.slice A xs.length c] w fun e w' => ∃ u, e = .returned u ∧ w'.ownsRow w.heap.size 3 1 u xs.length (ints xs) ∧ Below w.heap.size w w' := by
  obtain ⟨i0, hi, hz0, hz1, hz2⟩ := info_parts info_ci
  have qn : ∀ (w : World) (a : Option Addr) (n c n' c' : Nat), (binOp .eql 30 (.slice a n c) (.slice none n' c')).run Tryz.prog w = .ok (.bool a.isNone) w := fun w a n c n' c' => Lib.run_eql_slice_nil w _ _ a n c n' c' Tryz.underlying30
  cases A with
  | none =>
    have h0 : xs = [] := by
      cases xs with
      | nil => rfl
      | cons x r =>
        obtain ⟨b, o, e, _⟩ := hA.at_ (k := 0) (by simp)
        cases e
    subst h0
    go_enter Tryz.func87, Tryz.ntmps87
    go_wp2_with fail
    go_ret
    exact ⟨_, rfl, World.ownsRow_nil _ _ _ _, Below.refl _ _⟩
  | some ad =>
    have hc := cells_add hA
    have HC := Lib.hid (show ∀ W, Below w.heap.size w W → Cells W (some ad) (ints xs) from fun W hb => hA.below hb)
    clear hA hc
    have hba : Below w.heap.size w (w.alloc (.cells #[] 3)) := (Below.refl _ _).alloc (Nat.le_refl _) _
    have HB := Lib.hid hba
    clear hba
    go_enter Tryz.func87, Tryz.ntmps87
    go_wp2_with (at_builtin; refine wpList_append_own _ rfl _ _ 30 rfl w.heap.size 3 i0 (.int .i64 0) 1 8 Tryz.underlying30 hi hz0 hz1 hz2 rfl (by decide) _ _ _ rfl (World.ownsRow_made w #[] 0 (Nat.le_refl _) (Nat.zero_le _) rfl) ad xs.length c (ints xs) rfl (by simp) (cells_add (HC.out _ HB.out)) (ints_one xs) (by unfold maxLen; omega) (by omega) (by simp) ?_; intro v2 w2 hown2 hgrow2 _)
    rw [Nat.zero_add, List.nil_append] at hown2
    have HG := Lib.hid (HB.out.grown hgrow2 (by simp) (fun k hk => ((World.ownsRow_made (e := 3) (size := 1) w #[] 0 (Nat.le_refl _) (Nat.zero_le _) rfl).lt k hk).1))
    have HO := Lib.hid hown2
    clear hgrow2 hown2
    go_wp2_with fail
    go_ret
    exact ⟨_, rfl, HO.out, HG.out⟩

theorem info_ca3 : (Tryz.prog.info? 103).map (fun i => (i.zero, i.size, i.bytes)) = some (some (.agg #[.int .i64 0, .int .i64 0, .int .i64 0]), 3, 24) := by kernel_rfl

set_option maxRecDepth 100000 in
set_option maxHeartbeats 2000000 in
theorem cloneT_any (v : Value) (l : List I3) (w : World) (hn : l.length ≤ 2000000000000) (hv : RA3 w v l) :
    Calls Tryz.prog 93 #[v] w fun e w' => ∃ u, e = .returned u ∧ w'.ownsRow w.heap.size 103 3 u l.length (l.flatMap tri) ∧ Below w.heap.size w w' := by
  obtain ⟨i0, hi, hz0, hz1, hz2⟩ := info_parts info_ca3
  have qn : ∀ (w : World) (a : Option Addr) (n c n' c' : Nat), (binOp .eql 25 (.slice a n c) (.slice none n' c')).run Tryz.prog w = .ok (.bool a.isNone) w := fun w a n c n' c' => Lib.run_eql_slice_nil w _ _ a n c n' c' Tryz.underlying25
  obtain ⟨A, c, rfl, _, hA⟩ := hv
  cases A with
  | none =>
    have h0 : l = [] := by
      cases l with
      | nil => rfl
      | cons x r =>
        obtain ⟨b, o, e, _⟩ := hA.at_ (k := 0) (by simp [tri])
        cases e
    subst h0
    go_enter Tryz.func93, Tryz.ntmps93
    go_wp2_with fail
    go_ret
    exact ⟨_, rfl, World.ownsRow_nil _ _ _ _, Below.refl _ _⟩
  | some ad =>
    have HC := Lib.hid (show ∀ W, Below w.heap.size w W → Cells W (some ad) (l.flatMap tri) from fun W hb => hA.below hb)
    clear hA
    have hba : Below w.heap.size w (w.alloc (.cells #[] 103)) := (Below.refl _ _).alloc (Nat.le_refl _) _
    have HB := Lib.hid hba
    clear hba
    go_enter Tryz.func93, Tryz.ntmps93
    go_wp2_with (at_builtin; refine wpList_append_own _ rfl _ _ 25 rfl w.heap.size 103 i0 (.agg #[.int .i64 0, .int .i64 0, .int .i64 0]) 3 24 Tryz.underlying25 hi hz0 hz1 hz2 rfl (by decide) _ _ _ rfl (World.ownsRow_made w #[] 0 (Nat.le_refl _) (Nat.zero_le _) rfl) ad l.length c (l.flatMap tri) rfl (tri_len l) (cells_add (HC.out _ HB.out)) (tri_one l) (by unfold maxLen; omega) (by omega) (by simp) ?_; intro v2 w2 hown2 hgrow2 _)
    rw [Nat.zero_add, List.nil_append] at hown2
    have HG := Lib.hid (HB.out.grown hgrow2 (by simp) (fun k hk => ((World.ownsRow_made (e := 103) (size := 3) w #[] 0 (Nat.le_refl _) (Nat.zero_le _) rfl).lt k hk).1))
    have HO := Lib.hid hown2
    clear hgrow2 hown2
    go_wp2_with fail
    go_ret
    exact ⟨_, rfl, HO.out, HG.out⟩

end Go.Proofs.YtdgnhfhaaghoaaaGreatDoor

set_option linter.unusedVariables false
namespace Go.Proofs.YtdgnhfhaaghoaaaGreatDoor
open Go.RowKit

theorem run_append_none_cap {P : Program} {w : World} (base : Nat) (t ty e : TypeId) (i : TypeInfo) (size : Nat) (ht : P.underlying t = some (.slice e)) (hi : P.info? e = some i)
    (v : Value) (n c : Nat) (xs : List Value) (hown : w.ownsRow base e size v n xs) :
    (Builtin.append_ #[t, t] ty #[v, .slice none 0 c]).run P w = .ok v w := by
  rcases hown.2 with ⟨rfl, rfl⟩ | ⟨g, cap, cur, rfl, _, _, hnc, _⟩
  · simp [Builtin.append_, run_underlying ht, sizeOf, typeInfo, hi, Builtin.lenOf, Builtin.firstCells]
  · simp [Builtin.append_, run_underlying ht, sizeOf, typeInfo, hi, Builtin.lenOf, Builtin.firstCells, hnc, storeCells]

theorem wpList_append_none_cap {P : Program} {w : World} {ops : Array Oper} {rest : List Oper} {o : Oper} {a : Act} {Q : Exit → Act → World → Prop} (hgd : o.guard = none) (s x : Operand) (t : TypeId)
    (ho : o.op = .call { callee := .builtin .append, args := #[s, x], argTypes := #[t, t] })
    (base : Nat) (e : TypeId) (i : TypeInfo) (size : Nat) (ht : P.underlying t = some (.slice e)) (hi : P.info? e = some i)
    (v : Value) (n c : Nat) (xs : List Value) (hs : a.eval s = v) (hown : w.ownsRow base e size v n xs) (hx : a.eval x = .slice none 0 c)
    (h : wpList P ops Q rest (a.put o.dst v) w) : wpList P ops Q (o :: rest) a w := by
  refine wpList_plain hgd fun K hK => ?_
  have hrun := run_append_none_cap (P := P) (w := w) base t o.type e i size ht hi v n c xs hown
  unfold Oper.wp
  simp [execOp, ho, resolve, invoke, builtin, hs, hx, hrun, Result.andThen]
  exact hK _ _ h

theorem cells_none {w : World} {cs : List Value} (h : Cells w none cs) : cs = [] := by
  cases cs with
  | nil => rfl
  | cons x r =>
    obtain ⟨b, o, e, _⟩ := h.at_ (k := 0) (by simp)
    cases e

set_option maxRecDepth 100000 in
set_option maxHeartbeats 2000000 in
theorem l1Own_any (A : Option Addr) (c : Nat) (xs : List Int) (w : World) (hn : xs.length ≤ 16777216) (hA : Cells w A (ints xs)) :
    Calls Tryz.prog 91 #[.slice A xs.length c] w fun e w' => ∃ u, e = .returned u ∧ w'.ownsRow w.heap.size 3 1 u xs.length (ints xs) ∧ Below w.heap.size w w' := by
  obtain ⟨i0, hi, hz0, hz1, hz2⟩ := info_parts info_ci
  have hba : Below w.heap.size w (w.alloc (.cells #[] 3)) := (Below.refl _ _).alloc (Nat.le_refl _) _
  have HB := Lib.hid hba
  clear hba
  cases A with
  | none =>
    have h0 : xs = [] := by have := cells_none hA; simpa [ints] using this
    subst h0
    go_enter Tryz.func91, Tryz.ntmps91
    go_wp2_with (at_builtin; refine wpList_append_none_cap rfl _ _ 30 rfl w.heap.size 3 i0 1 Tryz.underlying30 hi _ _ _ _ rfl (World.ownsRow_made w #[] 0 (Nat.le_refl _) (Nat.zero_le _) rfl) rfl ?_)
    go_ret
    exact ⟨_, rfl, World.ownsRow_made w #[] 0 (Nat.le_refl _) (Nat.zero_le _) rfl, HB.out⟩
  | some ad =>
    have HC := Lib.hid (show ∀ W, Below w.heap.size w W → Cells W (some ad) (ints xs) from fun W hb => hA.below hb)
    clear hA
    go_enter Tryz.func91, Tryz.ntmps91
    go_wp2_with (at_builtin; refine wpList_append_own _ rfl _ _ 30 rfl w.heap.size 3 i0 (.int .i64 0) 1 8 Tryz.underlying30 hi hz0 hz1 hz2 rfl (by decide) _ _ _ rfl (World.ownsRow_made w #[] 0 (Nat.le_refl _) (Nat.zero_le _) rfl) ad xs.length c (ints xs) rfl (by simp) (cells_add (HC.out _ HB.out)) (ints_one xs) (by unfold maxLen; omega) (by omega) (by simp) ?_; intro v2 w2 hown2 hgrow2 _)
    rw [Nat.zero_add, List.nil_append] at hown2
    have HG := Lib.hid (HB.out.grown hgrow2 (by simp) (fun k hk => ((World.ownsRow_made (e := 3) (size := 1) w #[] 0 (Nat.le_refl _) (Nat.zero_le _) rfl).lt k hk).1))
    have HO := Lib.hid hown2
    clear hgrow2 hown2
    go_wp2_with fail
    go_ret
    exact ⟨_, rfl, HO.out, HG.out⟩

set_option maxHeartbeats 1000000 in
theorem heldLabelled_any (v : Value) (l : Lab) (k : Int) (w : World) (hs : SmallLab l) (hk0 : 0 ≤ k) (hk1 : k + sizeLab l ≤ 1099511627776) (hv : RLab w v (markLab k l)) :
    Calls Tryz.prog 42 #[v, .int .i64 k] w fun e w' => e = .returned (.int .i64 (k + sizeLab l)) ∧ Below w.heap.size w w' := by
  obtain ⟨sv, tv, rfl, h1, h2⟩ := hv
  have hs1 := hs.1
  have hs2 := hs.2.1
  have hs3 := hs.2.2
  unfold sizeLab at hk1 ⊢
  have hal : ∀ o, Below w.heap.size w (w.alloc o) := fun o => (Below.refl _ _).alloc (Nat.le_refl _) o
  have H1 := Lib.hid (fun o => heldIntSS_any sv l.shows k (w.alloc o) hs1 hs3 hk0 (by omega) (h1.below (hal o)))
  have H2 := Lib.hid (fun o => heldIntA3S_any tv l.steps.length (k + (total l.shows : Nat)) (w.alloc o) hs2 (by omega) (by omega) (h2.below (hal o)))
  have HAL := Lib.hid hal
  have hp1 : ¬ (k + ((total l.shows : Nat) : Int) < 0) := by omega
  have hp2 : ¬ (k + ((total l.shows : Nat) : Int) + 3 * ((l.steps.length : Nat) : Int) < 0) := by omega
  clear h1 h2 hal
  go_enter Tryz.func42, Tryz.ntmps42
  go_wp2_with fail
  refine (H1.out _).mono ?_
  rintro e w1 ⟨rfl, rfl⟩
  go_wp2_with fail
  refine (H2.out _).mono ?_
  rintro e w1 ⟨rfl, rfl⟩
  go_wp2_with fail
  go_ret
  refine ⟨?_, HAL.out _⟩
  show Ending.returned (Value.int .i64 (k + (total l.shows : Nat) + 3 * (l.steps.length : Int))) = _
  rw [Int.add_assoc]

end Go.Proofs.YtdgnhfhaaghoaaaGreatDoor
