/- slices.Clone at numbers, at strings and at inner names: library walked. -/
import Derived.Test.YtijkdpdmclkmlaaGreatDoorProg
import Derived.Test.YtijkdpdmclkmlaaGreatDoorJ16
import Derived.Lib.SliceRun
set_option linter.unusedSimpArgs false
set_option linter.unusedVariables false
set_option maxRecDepth 100000
set_option maxHeartbeats 16000000
namespace Go.Proofs.YtijkdpdmclkmlaaGreatDoor
open Go.RowKit
theorem gints_len (l : List Int) : (ints l).length = l.length * 1 := by simp [ints]
theorem gints_one (l : List Int) : ∀ u ∈ ints l, u.oneCell' = true := by
  intro u hu
  obtain ⟨x, _, rfl⟩ := List.mem_map.1 hu
  rfl
theorem gstrs_len (l : List ByteArray) : (strs l).length = l.length * 1 := by simp [strs]
theorem gstrs_one (l : List ByteArray) : ∀ u ∈ strs l, u.oneCell' = true := by
  intro u hu
  obtain ⟨x, _, rfl⟩ := List.mem_map.1 hu
  rfl
theorem gwis_len : ∀ (l : List Wi), (l.flatMap encWi).length = l.length * 2
  | [] => rfl
  | x :: l => by rw [List.flatMap_cons, List.length_append, gwis_len l, List.length_cons, Nat.add_mul]; show 2 + _ = _; omega
theorem gwis_one (l : List Wi) : ∀ u ∈ l.flatMap encWi, u.oneCell' = true := by
  intro u hu
  obtain ⟨t, _, ht⟩ := List.mem_flatMap.1 hu
  simp [encWi] at ht
  rcases ht with rfl | rfl <;> rfl
theorem cells_addG {w : World} {ad : Addr} {cs : List Value} (h : Cells w (some ad) cs) : ∀ j u, cs[j]? = some u → w.cell? (ad.add j) = some u := by
  intro j u hj
  obtain ⟨b, o, e, hc⟩ := h.at_ (List.getElem?_eq_some_iff.1 hj).1
  injection e with e
  subst e
  rw [Addr.add_lit]
  exact hc j u hj

theorem info_cloneIG : (Tryz.prog.info? 3).map (fun i => (i.zero, i.size, i.bytes)) = some (some (.int .i64 0), 1, 8) := by kernel_rfl

theorem cloneIG_any (A : Option Addr) (c : Nat) (l : List Int) (w : World) (hn : l.length ≤ 16777216) (hA : Cells w A (ints l)) :
    Calls Tryz.prog 181 #[.slice A l.length c] w fun e w' => ∃ u, e = .returned u ∧ w'.ownsRow w.heap.size 3 1 u l.length (ints l) ∧ Below w.heap.size w w' := by
  obtain ⟨i0, hi, hz0, hz1, hz2⟩ := info_parts info_cloneIG
  have qn : ∀ (w : World) (a : Option Addr) (n c n' c' : Nat), (binOp .eql 28 (.slice a n c) (.slice none n' c')).run Tryz.prog w = .ok (.bool a.isNone) w := fun w a n c n' c' => Lib.run_eql_slice_nil w _ _ a n c n' c' Tryz.underlying28
  cases A with
  | none =>
    have h0 : l = [] := by
      cases l with
      | nil => rfl
      | cons x r =>
        obtain ⟨b, o, e, _⟩ := hA.at_ (k := 0) (by simp)
        cases e
    subst h0
    go_enter Tryz.func181, Tryz.ntmps181
    go_wp2_with fail
    go_ret
    exact ⟨_, rfl, World.ownsRow_nil _ _ _ _, Below.refl _ _⟩
  | some ad =>
    have HC := Lib.hid (show ∀ W, Below w.heap.size w W → Cells W (some ad) (ints l) from fun W hb => hA.below hb)
    clear hA
    have hba : Below w.heap.size w (w.alloc (.cells #[] 3)) := (Below.refl _ _).alloc (Nat.le_refl _) _
    have HB := Lib.hid hba
    clear hba
    go_enter Tryz.func181, Tryz.ntmps181
    go_wp2_with (at_builtin; refine wpList_append_own _ rfl _ _ 28 rfl w.heap.size 3 i0 (.int .i64 0) 1 8 Tryz.underlying28 hi hz0 hz1 hz2 rfl (by decide) _ _ _ rfl (World.ownsRow_made w #[] 0 (Nat.le_refl _) (Nat.zero_le _) rfl) ad l.length c (ints l) rfl (gints_len l) (cells_addG (HC.out _ HB.out)) (gints_one l) (by unfold maxLen; omega) (by omega) (by simp) ?_; intro v2 w2 hown2 hgrow2 _)
    rw [Nat.zero_add, List.nil_append] at hown2
    have HG := Lib.hid (HB.out.grown hgrow2 (by simp) (fun k hk => ((World.ownsRow_made (e := 3) (size := 1) w #[] 0 (Nat.le_refl _) (Nat.zero_le _) rfl).lt k hk).1))
    have HO := Lib.hid hown2
    clear hgrow2 hown2
    go_wp2_with fail
    go_ret
    exact ⟨_, rfl, HO.out, HG.out⟩

theorem info_cloneSG : (Tryz.prog.info? 9).map (fun i => (i.zero, i.size, i.bytes)) = some (some (.string ⟨#[]⟩), 1, 16) := by kernel_rfl

theorem cloneSG_any (A : Option Addr) (c : Nat) (l : List ByteArray) (w : World) (hn : l.length ≤ 16777216) (hA : Cells w A (strs l)) :
    Calls Tryz.prog 124 #[.slice A l.length c] w fun e w' => ∃ u, e = .returned u ∧ w'.ownsRow w.heap.size 9 1 u l.length (strs l) ∧ Below w.heap.size w w' := by
  obtain ⟨i0, hi, hz0, hz1, hz2⟩ := info_parts info_cloneSG
  have qn : ∀ (w : World) (a : Option Addr) (n c n' c' : Nat), (binOp .eql 24 (.slice a n c) (.slice none n' c')).run Tryz.prog w = .ok (.bool a.isNone) w := fun w a n c n' c' => Lib.run_eql_slice_nil w _ _ a n c n' c' Tryz.underlying24
  cases A with
  | none =>
    have h0 : l = [] := by
      cases l with
      | nil => rfl
      | cons x r =>
        obtain ⟨b, o, e, _⟩ := hA.at_ (k := 0) (by simp)
        cases e
    subst h0
    go_enter Tryz.func124, Tryz.ntmps124
    go_wp2_with fail
    go_ret
    exact ⟨_, rfl, World.ownsRow_nil _ _ _ _, Below.refl _ _⟩
  | some ad =>
    have HC := Lib.hid (show ∀ W, Below w.heap.size w W → Cells W (some ad) (strs l) from fun W hb => hA.below hb)
    clear hA
    have hba : Below w.heap.size w (w.alloc (.cells #[] 9)) := (Below.refl _ _).alloc (Nat.le_refl _) _
    have HB := Lib.hid hba
    clear hba
    go_enter Tryz.func124, Tryz.ntmps124
    go_wp2_with (at_builtin; refine wpList_append_own _ rfl _ _ 24 rfl w.heap.size 9 i0 (.string ⟨#[]⟩) 1 16 Tryz.underlying24 hi hz0 hz1 hz2 rfl (by decide) _ _ _ rfl (World.ownsRow_made w #[] 0 (Nat.le_refl _) (Nat.zero_le _) rfl) ad l.length c (strs l) rfl (gstrs_len l) (cells_addG (HC.out _ HB.out)) (gstrs_one l) (by unfold maxLen; omega) (by omega) (by simp) ?_; intro v2 w2 hown2 hgrow2 _)
    rw [Nat.zero_add, List.nil_append] at hown2
    have HG := Lib.hid (HB.out.grown hgrow2 (by simp) (fun k hk => ((World.ownsRow_made (e := 9) (size := 1) w #[] 0 (Nat.le_refl _) (Nat.zero_le _) rfl).lt k hk).1))
    have HO := Lib.hid hown2
    clear hgrow2 hown2
    go_wp2_with fail
    go_ret
    exact ⟨_, rfl, HO.out, HG.out⟩

theorem info_cloneWG : (Tryz.prog.info? 90).map (fun i => (i.zero, i.size, i.bytes)) = some (some (.agg #[.string ⟨#[]⟩, .int .i64 0]), 2, 24) := by kernel_rfl

theorem cloneWG_any (A : Option Addr) (c : Nat) (l : List Wi) (w : World) (hn : l.length ≤ 16777216) (hA : Cells w A (l.flatMap encWi)) :
    Calls Tryz.prog 155 #[.slice A l.length c] w fun e w' => ∃ u, e = .returned u ∧ w'.ownsRow w.heap.size 90 2 u l.length (l.flatMap encWi) ∧ Below w.heap.size w w' := by
  obtain ⟨i0, hi, hz0, hz1, hz2⟩ := info_parts info_cloneWG
  have qn : ∀ (w : World) (a : Option Addr) (n c n' c' : Nat), (binOp .eql 29 (.slice a n c) (.slice none n' c')).run Tryz.prog w = .ok (.bool a.isNone) w := fun w a n c n' c' => Lib.run_eql_slice_nil w _ _ a n c n' c' Tryz.underlying29
  cases A with
  | none =>
    have h0 : l = [] := by
      cases l with
      | nil => rfl
      | cons x r =>
        obtain ⟨b, o, e, _⟩ := hA.at_ (k := 0) (by simp [encWi])
        cases e
    subst h0
    go_enter Tryz.func155, Tryz.ntmps155
    go_wp2_with fail
    go_ret
    exact ⟨_, rfl, World.ownsRow_nil _ _ _ _, Below.refl _ _⟩
  | some ad =>
    have HC := Lib.hid (show ∀ W, Below w.heap.size w W → Cells W (some ad) (l.flatMap encWi) from fun W hb => hA.below hb)
    clear hA
    have hba : Below w.heap.size w (w.alloc (.cells #[] 90)) := (Below.refl _ _).alloc (Nat.le_refl _) _
    have HB := Lib.hid hba
    clear hba
    go_enter Tryz.func155, Tryz.ntmps155
    go_wp2_with (at_builtin; refine wpList_append_own _ rfl _ _ 29 rfl w.heap.size 90 i0 (.agg #[.string ⟨#[]⟩, .int .i64 0]) 2 24 Tryz.underlying29 hi hz0 hz1 hz2 rfl (by decide) _ _ _ rfl (World.ownsRow_made w #[] 0 (Nat.le_refl _) (Nat.zero_le _) rfl) ad l.length c (l.flatMap encWi) rfl (gwis_len l) (cells_addG (HC.out _ HB.out)) (gwis_one l) (by unfold maxLen; omega) (by omega) (by simp) ?_; intro v2 w2 hown2 hgrow2 _)
    rw [Nat.zero_add, List.nil_append] at hown2
    have HG := Lib.hid (HB.out.grown hgrow2 (by simp) (fun k hk => ((World.ownsRow_made (e := 90) (size := 2) w #[] 0 (Nat.le_refl _) (Nat.zero_le _) rfl).lt k hk).1))
    have HO := Lib.hid hown2
    clear hgrow2 hown2
    go_wp2_with fail
    go_ret
    exact ⟨_, rfl, HO.out, HG.out⟩

end Go.Proofs.YtijkdpdmclkmlaaGreatDoor
