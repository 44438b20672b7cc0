/- Kinds of bigraphs: the tests by places, and the plain law of them. The first string that is equal: the program's slices.Index walked. slices.Clone at numbers, at strings and at inner names: library walked. -/
import Derived.Test.YtijkdpdmclkmlaaGreatDoorProg
import Derived.Test.YtijkdpdmclkmlaaGreatDoorJ8
import Derived.Test.YtijkdpdmclkmlaaGreatDoorJ20
import Derived.Test.YtijkdpdmclkmlaaGreatDoorJ16
import Derived.Test.YtijkdpdmclkmlaaGreatDoorJ5
import Derived.Handy
import Derived.StillTailTactics
import Derived.Test.YtijkdpdmclkmlaaGreatDoorJ0
import Derived.Lib.SliceRun
import Derived.Test.YtijkdpdmclkmlaaGreatDoorJ17
import Derived.Test.YtijkdpdmclkmlaaGreatDoorJ18
set_option linter.unusedSimpArgs false
set_option linter.unusedVariables false
set_option maxRecDepth 100000
set_option maxHeartbeats 16000000
namespace Go.Proofs.YtijkdpdmclkmlaaGreatDoor
open Go.RowKit
def wirB (g : Gr) : Bool := g.roots == 0
def leanB (g : Gr) : Bool := allR g.edges.toNat fun l => !idleB g (l : Int)
def guardB (g : Gr) : Bool := allR g.sites.length (fun i => decide (0 ≤ g.sites.getD i 0)) && allR g.inner.length fun i => decide ((wiA g i).2 < g.edges)
def wirR (sig : List Ct) (g : Gr) : Bool := goodG sig g && wirB g
def openR (sig : List Ct) (g : Gr) : Bool := wirR sig g && (g.edges == 0)
def primR (sig : List Ct) (g : Gr) : Bool := goodG sig g && (g.roots == 1) && ((g.inner.length : Int) == 0)
def leanR (sig : List Ct) (g : Gr) : Bool := goodG sig g && leanB g
def guardR (sig : List Ct) (g : Gr) : Bool := goodG sig g && guardB g

theorem wirR_eq (sig : List Ct) (g : Gr) : wirR sig g = (goodG sig g && wirB g) := rfl
theorem wirR_alt (sig : List Ct) (g : Gr) : wirR sig g = (goodG sig g && (g.roots == 0)) := rfl
theorem openR_eq (sig : List Ct) (g : Gr) : openR sig g = (wirR sig g && (g.edges == 0)) := rfl
theorem primR_eq (sig : List Ct) (g : Gr) : primR sig g = (goodG sig g && (g.roots == 1) && ((g.inner.length : Int) == 0)) := rfl
theorem leanR_eq (sig : List Ct) (g : Gr) : leanR sig g = (goodG sig g && leanB g) := rfl
theorem guardR_eq (sig : List Ct) (g : Gr) : guardR sig g = (goodG sig g && guardB g) := rfl
theorem any_not1 (n : Nat) (q : Nat → Bool) : (!anyR n fun k => !q k) = allR n q := by
  unfold anyR allR
  induction List.range n with
  | nil => rfl
  | cons x r ih =>
    simp only [List.any_cons, List.all_cons, Bool.not_or, Bool.not_not, ← ih]
theorem guardR_alt (sig : List Ct) (g : Gr) : guardR sig g = (goodG sig g && (!anyR g.sites.length fun k => !decide (0 ≤ g.sites.getD k 0)) && (!anyR g.inner.length fun k => !decide ((wiA g k).2 < g.edges))) := by
  rw [any_not1, any_not1, Bool.and_assoc]
  rfl

def NoB (p : Nat → Bool) (k : Nat) : Prop := ∀ j, j < k → p j = false
theorem indexS_any (A : Option Addr) (c : Nat) (ls : List ByteArray) (x : ByteArray) (w : World) (hn : ls.length ≤ 16777216) (hA : Cells w A (strs ls)) :
    Calls Tryz.prog 121 #[.slice A ls.length c, .string x] w fun e w' => e = .returned (.int .i64 (idxR ls.length fun k => decide (ls.getD k default = x))) ∧ w = w' := by
  obtain ⟨p, hp⟩ : ∃ p : Nat → Bool, p = fun k => decide (ls.getD k default = x) := ⟨_, rfl⟩
  rw [← hp]
  have HP := Lib.hid (fun k => show p k = decide (ls.getD k default = x) from by rw [hp])
  clear hp
  go_enter Tryz.func121, Tryz.ntmps121
  go_wp2
  go_loop [8] (fun i => ∃ k : Nat, k ≤ ls.length ∧ i = .int .i64 k ∧ NoB p k) (fun i => ls.length - (intOf i).toNat)
  case atStart => exact ⟨0, Nat.zero_le _, rfl, fun j hj => by omega⟩
  obtain ⟨k, hk, rfl, hall⟩ := hrel
  have HALL := Lib.hid hall
  clear hall
  by_cases hlt : k < ls.length
  · obtain ⟨b, o, rfl, hc⟩ := hA.str hlt
    have c0 := hc k hlt
    by_cases he : ls.getD k default = x
    · have HY := Lib.hid (idxR_some hlt HALL.out (by rw [HP.out]; simpa using he))
      have hee := str_eq x
      rw [he] at c0
      clear hc hA he
      go_wp2_with fail
      go_ret
      exact ⟨by rw [HY.out]; rfl, rfl⟩
    have HN := Lib.hid (show NoB p (k + 1) from none_next HALL.out (by rw [HP.out]; simpa using he))
    have hee := str_ne (fun h => he h.symm)
    clear hc hA he
    generalize ls.getD k default = y at *
    go_wp2_with fail
    go_round
    case rel => exact ⟨k + 1, by omega, by go_num, HN.out⟩
    case measure => simp [intOf]; omega
  obtain rfl : k = ls.length := by omega
  have HF := Lib.hid (idxR_none HALL.out)
  go_wp2_with fail
  go_ret
  exact ⟨by rw [HF.out]; rfl, rfl⟩

theorem gints_len (l : List Int) : (ints l).length = l.length * 1 := by simp [ints]
theorem gints_one (l : List Int) : ∀ u ∈ ints l, u.oneCell' = true := by
  intro u hu
  obtain ⟨x, _, rfl⟩ := List.mem_map.1 hu
  rfl
theorem gstrs_len (l : List ByteArray) : (strs l).length = l.length * 1 := by simp [strs]
theorem gstrs_one (l : List ByteArray) : ∀ u ∈ strs l, u.oneCell' = true := by
  intro u hu
  obtain ⟨x, _, rfl⟩ := List.mem_map.1 hu
  rfl
theorem gwis_len : ∀ (l : List Wi), (l.flatMap encWi).length = l.length * 2
  | [] => rfl
  | x :: l => by rw [List.flatMap_cons, List.length_append, gwis_len l, List.length_cons, Nat.add_mul]; show 2 + _ = _; omega
theorem gwis_one (l : List Wi) : ∀ u ∈ l.flatMap encWi, u.oneCell' = true := by
  intro u hu
  obtain ⟨t, _, ht⟩ := List.mem_flatMap.1 hu
  simp [encWi] at ht
  rcases ht with rfl | rfl <;> rfl
theorem cells_addG {w : World} {ad : Addr} {cs : List Value} (h : Cells w (some ad) cs) : ∀ j u, cs[j]? = some u → w.cell? (ad.add j) = some u := by
  intro j u hj
  obtain ⟨b, o, e, hc⟩ := h.at_ (List.getElem?_eq_some_iff.1 hj).1
  injection e with e
  subst e
  rw [Addr.add_lit]
  exact hc j u hj

theorem info_cloneIG : (Tryz.prog.info? 3).map (fun i => (i.zero, i.size, i.bytes)) = some (some (.int .i64 0), 1, 8) := by kernel_rfl

theorem cloneIG_any (A : Option Addr) (c : Nat) (l : List Int) (w : World) (hn : l.length ≤ 16777216) (hA : Cells w A (ints l)) :
    Calls Tryz.prog 181 #[.slice A l.length c] w fun e w' => ∃ u, e = .returned u ∧ w'.ownsRow w.heap.size 3 1 u l.length (ints l) ∧ Below w.heap.size w w' := by
  obtain ⟨i0, hi, hz0, hz1, hz2⟩ := info_parts info_cloneIG
  have qn : ∀ (w : World) (a : Option Addr) (n c n' c' : Nat), (binOp .eql 28 (.slice a n c) (.slice none n' c')).run Tryz.prog w = .ok (.bool a.isNone) w := fun w a n c n' c' => Lib.run_eql_slice_nil w _ _ a n c n' c' Tryz.underlying28
  cases A with
  | none =>
    have h0 : l = [] := by
      cases l with
      | nil => rfl
      | cons x r =>
        obtain ⟨b, o, e, _⟩ := hA.at_ (k := 0) (by simp)
        cases e
    subst h0
    go_enter Tryz.func181, Tryz.ntmps181
    go_wp2_with fail
    go_ret
    exact ⟨_, rfl, World.ownsRow_nil _ _ _ _, Below.refl _ _⟩
  | some ad =>
    have HC := Lib.hid (show ∀ W, Below w.heap.size w W → Cells W (some ad) (ints l) from fun W hb => hA.below hb)
    clear hA
    have hba : Below w.heap.size w (w.alloc (.cells #[] 3)) := (Below.refl _ _).alloc (Nat.le_refl _) _
    have HB := Lib.hid hba
    clear hba
    go_enter Tryz.func181, Tryz.ntmps181
    go_wp2_with (at_builtin; refine wpList_append_own _ rfl _ _ 28 rfl w.heap.size 3 i0 (.int .i64 0) 1 8 Tryz.underlying28 hi hz0 hz1 hz2 rfl (by decide) _ _ _ rfl (World.ownsRow_made w #[] 0 (Nat.le_refl _) (Nat.zero_le _) rfl) ad l.length c (ints l) rfl (gints_len l) (cells_addG (HC.out _ HB.out)) (gints_one l) (by unfold maxLen; omega) (by omega) (by simp) ?_; intro v2 w2 hown2 hgrow2 _)
    rw [Nat.zero_add, List.nil_append] at hown2
    have HG := Lib.hid (HB.out.grown hgrow2 (by simp) (fun k hk => ((World.ownsRow_made (e := 3) (size := 1) w #[] 0 (Nat.le_refl _) (Nat.zero_le _) rfl).lt k hk).1))
    have HO := Lib.hid hown2
    clear hgrow2 hown2
    go_wp2_with fail
    go_ret
    exact ⟨_, rfl, HO.out, HG.out⟩

theorem info_cloneSG : (Tryz.prog.info? 9).map (fun i => (i.zero, i.size, i.bytes)) = some (some (.string ⟨#[]⟩), 1, 16) := by kernel_rfl

theorem cloneSG_any (A : Option Addr) (c : Nat) (l : List ByteArray) (w : World) (hn : l.length ≤ 16777216) (hA : Cells w A (strs l)) :
    Calls Tryz.prog 124 #[.slice A l.length c] w fun e w' => ∃ u, e = .returned u ∧ w'.ownsRow w.heap.size 9 1 u l.length (strs l) ∧ Below w.heap.size w w' := by
  obtain ⟨i0, hi, hz0, hz1, hz2⟩ := info_parts info_cloneSG
  have qn : ∀ (w : World) (a : Option Addr) (n c n' c' : Nat), (binOp .eql 24 (.slice a n c) (.slice none n' c')).run Tryz.prog w = .ok (.bool a.isNone) w := fun w a n c n' c' => Lib.run_eql_slice_nil w _ _ a n c n' c' Tryz.underlying24
  cases A with
  | none =>
    have h0 : l = [] := by
      cases l with
      | nil => rfl
      | cons x r =>
        obtain ⟨b, o, e, _⟩ := hA.at_ (k := 0) (by simp)
        cases e
    subst h0
    go_enter Tryz.func124, Tryz.ntmps124
    go_wp2_with fail
    go_ret
    exact ⟨_, rfl, World.ownsRow_nil _ _ _ _, Below.refl _ _⟩
  | some ad =>
    have HC := Lib.hid (show ∀ W, Below w.heap.size w W → Cells W (some ad) (strs l) from fun W hb => hA.below hb)
    clear hA
    have hba : Below w.heap.size w (w.alloc (.cells #[] 9)) := (Below.refl _ _).alloc (Nat.le_refl _) _
    have HB := Lib.hid hba
    clear hba
    go_enter Tryz.func124, Tryz.ntmps124
    go_wp2_with (at_builtin; refine wpList_append_own _ rfl _ _ 24 rfl w.heap.size 9 i0 (.string ⟨#[]⟩) 1 16 Tryz.underlying24 hi hz0 hz1 hz2 rfl (by decide) _ _ _ rfl (World.ownsRow_made w #[] 0 (Nat.le_refl _) (Nat.zero_le _) rfl) ad l.length c (strs l) rfl (gstrs_len l) (cells_addG (HC.out _ HB.out)) (gstrs_one l) (by unfold maxLen; omega) (by omega) (by simp) ?_; intro v2 w2 hown2 hgrow2 _)
    rw [Nat.zero_add, List.nil_append] at hown2
    have HG := Lib.hid (HB.out.grown hgrow2 (by simp) (fun k hk => ((World.ownsRow_made (e := 9) (size := 1) w #[] 0 (Nat.le_refl _) (Nat.zero_le _) rfl).lt k hk).1))
    have HO := Lib.hid hown2
    clear hgrow2 hown2
    go_wp2_with fail
    go_ret
    exact ⟨_, rfl, HO.out, HG.out⟩

theorem info_cloneWG : (Tryz.prog.info? 90).map (fun i => (i.zero, i.size, i.bytes)) = some (some (.agg #[.string ⟨#[]⟩, .int .i64 0]), 2, 24) := by kernel_rfl

theorem cloneWG_any (A : Option Addr) (c : Nat) (l : List Wi) (w : World) (hn : l.length ≤ 16777216) (hA : Cells w A (l.flatMap encWi)) :
    Calls Tryz.prog 155 #[.slice A l.length c] w fun e w' => ∃ u, e = .returned u ∧ w'.ownsRow w.heap.size 90 2 u l.length (l.flatMap encWi) ∧ Below w.heap.size w w' := by
  obtain ⟨i0, hi, hz0, hz1, hz2⟩ := info_parts info_cloneWG
  have qn : ∀ (w : World) (a : Option Addr) (n c n' c' : Nat), (binOp .eql 29 (.slice a n c) (.slice none n' c')).run Tryz.prog w = .ok (.bool a.isNone) w := fun w a n c n' c' => Lib.run_eql_slice_nil w _ _ a n c n' c' Tryz.underlying29
  cases A with
  | none =>
    have h0 : l = [] := by
      cases l with
      | nil => rfl
      | cons x r =>
        obtain ⟨b, o, e, _⟩ := hA.at_ (k := 0) (by simp [encWi])
        cases e
    subst h0
    go_enter Tryz.func155, Tryz.ntmps155
    go_wp2_with fail
    go_ret
    exact ⟨_, rfl, World.ownsRow_nil _ _ _ _, Below.refl _ _⟩
  | some ad =>
    have HC := Lib.hid (show ∀ W, Below w.heap.size w W → Cells W (some ad) (l.flatMap encWi) from fun W hb => hA.below hb)
    clear hA
    have hba : Below w.heap.size w (w.alloc (.cells #[] 90)) := (Below.refl _ _).alloc (Nat.le_refl _) _
    have HB := Lib.hid hba
    clear hba
    go_enter Tryz.func155, Tryz.ntmps155
    go_wp2_with (at_builtin; refine wpList_append_own _ rfl _ _ 29 rfl w.heap.size 90 i0 (.agg #[.string ⟨#[]⟩, .int .i64 0]) 2 24 Tryz.underlying29 hi hz0 hz1 hz2 rfl (by decide) _ _ _ rfl (World.ownsRow_made w #[] 0 (Nat.le_refl _) (Nat.zero_le _) rfl) ad l.length c (l.flatMap encWi) rfl (gwis_len l) (cells_addG (HC.out _ HB.out)) (gwis_one l) (by unfold maxLen; omega) (by omega) (by simp) ?_; intro v2 w2 hown2 hgrow2 _)
    rw [Nat.zero_add, List.nil_append] at hown2
    have HG := Lib.hid (HB.out.grown hgrow2 (by simp) (fun k hk => ((World.ownsRow_made (e := 90) (size := 2) w #[] 0 (Nat.le_refl _) (Nat.zero_le _) rfl).lt k hk).1))
    have HO := Lib.hid hown2
    clear hgrow2 hown2
    go_wp2_with fail
    go_ret
    exact ⟨_, rfl, HO.out, HG.out⟩

end Go.Proofs.YtijkdpdmclkmlaaGreatDoor
