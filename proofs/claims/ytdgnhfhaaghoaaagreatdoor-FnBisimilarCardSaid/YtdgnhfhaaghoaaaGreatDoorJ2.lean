/- Labelled systems in memory, as read: slices of slices of ints, slices of triples; the sizes that the law package reckons. Labelled systems copied and compared: the law package's helpers. Labelled systems of a call's own: copied, marked, asked for the mark. Marks: memory of a call's own is written over with numbers that rise, and asked for them. []int and [][]int. Whether a slice of ints has a number: program and reference walked. Labelled systems marked and asked for the mark. slices.Clone at numbers and at triples: library walked. Labelled systems joined: the helpers of the law and of the reference, walked. -/
import Derived.Test.YtdgnhfhaaghoaaaGreatDoorProg
import Derived.Test.YtdgnhfhaaghoaaaGreatDoorJ0
import Derived.Handy
import Derived.StillTailTactics
import Derived.Lib.SliceRun
import Derived.Laws.AppendOwnNone
set_option linter.unusedSimpArgs false
set_option linter.unusedVariables false
namespace Go.Proofs.YtdgnhfhaaghoaaaGreatDoor
open Go.RowKit

def RI (w : World) (v : Value) (xs : List Int) : Prop := ∃ A c, v = .slice A xs.length c ∧ xs.length ≤ maxLen ∧ Cells w A (ints xs)

def RSS (w : World) (v : Value) (xss : List (List Int)) : Prop :=
  ∃ A c vs, v = .slice A xss.length c ∧ xss.length ≤ maxLen ∧ vs.length = xss.length ∧ Cells w A vs ∧ ∀ (i : Nat) u xs, vs[i]? = some u → xss[i]? = some xs → RI w u xs

abbrev I3 := Int × Int × Int
def tri (t : I3) : List Value := [.int .i64 t.1, .int .i64 t.2.1, .int .i64 t.2.2]
def RA3 (w : World) (v : Value) (l : List I3) : Prop := ∃ A c, v = .slice A l.length c ∧ l.length ≤ maxLen ∧ Cells w A (l.flatMap tri)

structure Lab where
  shows : List (List Int)
  steps : List I3
def RLab (w : World) (v : Value) (l : Lab) : Prop := ∃ sv tv, v = .agg #[sv, tv] ∧ RSS w sv l.shows ∧ RA3 w tv l.steps

section
variable {w w' : World}
theorem RI.below {v : Value} {xs : List Int} (h : RI w v xs) (hb : Below w.heap.size w w') : RI w' v xs := by
  obtain ⟨A, c, e, hm, hc⟩ := h
  exact ⟨A, c, e, hm, hc.below hb⟩
theorem RSS.below {v : Value} {xss : List (List Int)} (h : RSS w v xss) (hb : Below w.heap.size w w') : RSS w' v xss := by
  obtain ⟨A, c, vs, e, hm, hl, hc, hi⟩ := h
  exact ⟨A, c, vs, e, hm, hl, hc.below hb, fun i u xs h1 h2 => (hi i u xs h1 h2).below hb⟩
theorem RA3.below {v : Value} {l : List I3} (h : RA3 w v l) (hb : Below w.heap.size w w') : RA3 w' v l := by
  obtain ⟨A, c, e, hm, hc⟩ := h
  exact ⟨A, c, e, hm, hc.below hb⟩
theorem RLab.below {v : Value} {l : Lab} (h : RLab w v l) (hb : Below w.heap.size w w') : RLab w' v l := by
  obtain ⟨sv, tv, e, hs, ht⟩ := h
  exact ⟨sv, tv, e, hs.below hb, ht.below hb⟩
end

end Go.Proofs.YtdgnhfhaaghoaaaGreatDoor

set_option linter.unusedVariables false
namespace Go.Proofs.YtdgnhfhaaghoaaaGreatDoor
open Go.RowKit

/-- The rows are short enough for the compare's contract. -/
def Small (xss : List (List Int)) : Prop := ∀ xs ∈ xss, xs.length ≤ 16777216

theorem tri_at (l : List I3) : ∀ (k : Nat) (t : I3), l[k]? = some t → (l.flatMap tri)[k * 3]? = some (.int .i64 t.1) ∧ (l.flatMap tri)[k * 3 + 1]? = some (.int .i64 t.2.1) ∧ (l.flatMap tri)[k * 3 + 2]? = some (.int .i64 t.2.2) := by
  induction l with
  | nil => intro k t h; simp at h
  | cons a r ih =>
    intro k t h
    cases k with
    | zero =>
      simp at h
      subst h
      simp [tri]
    | succ k =>
      have := ih k t (by simpa using h)
      have e0 : (k + 1) * 3 = k * 3 + 3 := by omega
      have e1 : k * 3 + 3 + 1 = k * 3 + 1 + 3 := by omega
      have e2 : k * 3 + 3 + 2 = k * 3 + 2 + 3 := by omega
      rw [e0, e1, e2]
      simp only [List.flatMap_cons, tri]
      exact this

theorem RA3.at_ {w : World} {v : Value} {l : List I3} (h : RA3 w v l) {k : Nat} {t : I3} (hk : l[k]? = some t) :
    ∃ b o c, v = .slice (some ⟨b, o, none⟩) l.length c ∧ w.cell? ⟨b, o + k * 3, none⟩ = some (.int .i64 t.1) ∧ w.cell? ⟨b, o + k * 3 + 1, none⟩ = some (.int .i64 t.2.1) ∧ w.cell? ⟨b, o + k * 3 + 2, none⟩ = some (.int .i64 t.2.2) := by
  obtain ⟨A, c, rfl, _, hc⟩ := h
  obtain ⟨h0, h1, h2⟩ := tri_at l k t hk
  obtain ⟨b, o, rfl, hcc⟩ := hc.at_ (List.getElem?_eq_some_iff.1 h0).1
  exact ⟨b, o, c, rfl, hcc _ _ h0, hcc _ _ h1, hcc _ _ h2⟩

/-- The sizes for which the law package's helpers have their contracts. -/
def SmallLab (l : Lab) : Prop := l.shows.length ≤ 16777216 ∧ l.steps.length ≤ 16777216 ∧ Small l.shows

end Go.Proofs.YtdgnhfhaaghoaaaGreatDoor

set_option linter.unusedVariables false
namespace Go.Proofs.YtdgnhfhaaghoaaaGreatDoor
open Go.RowKit

/-- A slice of slices that may be written, no two rows in one block. -/
def OwnSS (w : World) (S : Nat → Prop) (v : Value) (xss : List (List Int)) : Prop :=
  ∃ (vs : List Value) (S0 : Nat → Prop) (T : Nat → Nat → Prop), Own w S0 v xss.length vs ∧ vs.length = xss.length ∧
    (∀ (i : Nat) u xs, vs[i]? = some u → xss[i]? = some xs → Own w (T i) u xs.length (ints xs)) ∧
    (∀ b, S0 b → S b) ∧ (∀ i b, T i b → S b ∧ ¬ S0 b) ∧ (∀ i j b, T i b → T j b → i = j)

def OwnLab (w : World) (S : Nat → Prop) (v : Value) (l : Lab) : Prop :=
  ∃ (sv tv : Value) (S1 S2 : Nat → Prop), v = .agg #[sv, tv] ∧ OwnSS w S1 sv l.shows ∧ Own w S2 tv l.steps.length (l.steps.flatMap tri) ∧
    (∀ b, S1 b → S b) ∧ (∀ b, S2 b → S b) ∧ (∀ b, S1 b → ¬ S2 b)

section
variable {w w' : World} {S T : Nat → Prop} {v : Value}

theorem Own.ri {xs : List Int} (h : Own w S v xs.length (ints xs)) (hn : xs.length ≤ maxLen) : RI w v xs := by
  obtain ⟨A, c, e, hc⟩ := h.cells
  exact ⟨A, c, e, hn, hc⟩
theorem Own.ra3 {l : List I3} (h : Own w S v l.length (l.flatMap tri)) (hn : l.length ≤ maxLen) : RA3 w v l := by
  obtain ⟨A, c, e, hc⟩ := h.cells
  exact ⟨A, c, e, hn, hc⟩
theorem OwnSS.rss {xss : List (List Int)} (h : OwnSS w S v xss) (hn : xss.length ≤ maxLen) (hs : ∀ xs ∈ xss, xs.length ≤ maxLen) : RSS w v xss := by
  obtain ⟨vs, S0, T, h0, hl, hi, _⟩ := h
  obtain ⟨A, c, e, hc⟩ := h0.cells
  exact ⟨A, c, vs, e, hn, hl, hc, fun i u xs h1 h2 => (hi i u xs h1 h2).ri (hs xs (List.mem_of_getElem? h2))⟩
theorem le_maxLen {n : Nat} (h : n ≤ 16777216) : n ≤ maxLen := by unfold maxLen; omega
theorem OwnSS.form {xss : List (List Int)} (h : OwnSS w S v xss) : ∃ A c, v = .slice A xss.length c := by
  obtain ⟨vs, S0, T, ⟨A, c, e, _⟩, _⟩ := h
  exact ⟨A, c, e⟩
theorem OwnLab.rlab {l : Lab} (h : OwnLab w S v l) (hs : SmallLab l) : RLab w v l := by
  obtain ⟨sv, tv, S1, S2, e, h1, h2, _⟩ := h
  exact ⟨sv, tv, e, h1.rss (le_maxLen hs.1) (fun xs hx => le_maxLen (hs.2.2 xs hx)), h2.ra3 (le_maxLen hs.2.1)⟩

theorem OwnSS.kept {xss : List (List Int)} (h : OwnSS w S v xss) (hk : Kept T w w') (hd : ∀ b, S b → ¬ T b) : OwnSS w' S v xss := by
  obtain ⟨vs, S0, R, h0, hl, hi, a1, a2, a3⟩ := h
  exact ⟨vs, S0, R, h0.kept hk (fun b hb => hd b (a1 b hb)), hl, fun i u xs h1 h2 => (hi i u xs h1 h2).kept hk (fun b hb => hd b (a2 i b hb).1), a1, a2, a3⟩
theorem OwnSS.mono {xss : List (List Int)} (h : OwnSS w S v xss) (hs : ∀ b, S b → T b) : OwnSS w T v xss := by
  obtain ⟨vs, S0, R, h0, hl, hi, a1, a2, a3⟩ := h
  exact ⟨vs, S0, R, h0, hl, hi, fun b hb => hs b (a1 b hb), fun i b hb => ⟨hs b (a2 i b hb).1, (a2 i b hb).2⟩, a3⟩
theorem OwnLab.kept {l : Lab} (h : OwnLab w S v l) (hk : Kept T w w') (hd : ∀ b, S b → ¬ T b) : OwnLab w' S v l := by
  obtain ⟨sv, tv, S1, S2, e, h1, h2, a1, a2, a3⟩ := h
  exact ⟨sv, tv, S1, S2, e, h1.kept hk (fun b hb => hd b (a1 b hb)), h2.kept hk (fun b hb => hd b (a2 b hb)), a1, a2, a3⟩
theorem OwnLab.below {B : Nat} {l : Lab} (h : OwnLab w S v l) (hb : Below B w w') (hB : w.heap.size ≤ B) : OwnLab w' S v l :=
  h.kept (T := fun _ => False) ⟨hb.os, hb.tape, hb.output, hb.size, fun b hb' _ => hb.block b (by omega)⟩ (fun _ _ k => k)
theorem OwnSS.below {B : Nat} {l : List (List Int)} (h : OwnSS w S v l) (hb : Below B w w') (hB : w.heap.size ≤ B) : OwnSS w' S v l :=
  h.kept (T := fun _ => False) ⟨hb.os, hb.tape, hb.output, hb.size, fun b hb' _ => hb.block b (by omega)⟩ (fun _ _ k => k)
end

theorem tri_len (l : List I3) : (l.flatMap tri).length = l.length * 3 := by
  induction l with
  | nil => rfl
  | cons a r ih => rw [List.flatMap_cons, List.length_append, ih]; simp [tri]; omega

end Go.Proofs.YtdgnhfhaaghoaaaGreatDoor

set_option linter.unusedVariables false
set_option linter.unusedVariables false
namespace Go.Proofs.YtdgnhfhaaghoaaaGreatDoor
open Go.RowKit

/-- n numbers from k on. -/
def up (k : Int) (n : Nat) : List Int := (List.range n).map fun (i : Nat) => k + (i : Int)
def marks : Int → List (List Int) → List (List Int)
  | _, [] => []
  | k, xs :: r => up k xs.length :: marks (k + xs.length) r

end Go.Proofs.YtdgnhfhaaghoaaaGreatDoor

set_option linter.unusedVariables false
namespace Go.Proofs.YtdgnhfhaaghoaaaGreatDoor
open Go.RowKit

def hasI (xs : List Int) (d : Int) : Bool := xs.contains d

theorem hasI_no {xs : List Int} {d : Int} (h : ∀ j, j < xs.length → (xs.getD j 0 == d) = false) : hasI xs d = false := by
  unfold hasI
  rw [← Bool.not_eq_true, List.contains_iff_mem]
  intro hm
  obtain ⟨j, hj, e⟩ := List.getElem_of_mem hm
  have := h j hj
  simp [List.getD, hj, e] at this
theorem hasI_yes {xs : List Int} {d : Int} {j : Nat} (h : j < xs.length) (e : (xs.getD j 0 == d) = true) : hasI xs d = true := by
  unfold hasI
  rw [List.contains_iff_mem]
  simp [List.getD, h] at e
  rw [← e]
  exact List.getElem_mem _

set_option maxHeartbeats 1000000 in
theorem l1Has_any (A : Option Addr) (c : Nat) (xs : List Int) (d : Int) (w : World) (hn : xs.length ≤ 16777216) (hA : Cells w A (ints xs)) :
    Calls Tryz.prog 151 #[.slice A xs.length c, .int .i64 d] w fun e w' => e = .returned (.bool (hasI xs d)) ∧ w = w' := by
  go_enter Tryz.func151, Tryz.ntmps151
  go_wp2
  go_loop [5] (fun i => ∃ k : Nat, k ≤ xs.length ∧ i = .int .i64 k ∧ ∀ j, j < k → (xs.getD j 0 == d) = false) (fun i => xs.length - (intOf i).toNat)
  case atStart => exact ⟨0, Nat.zero_le _, rfl, fun j hj => by omega⟩
  case round =>
    obtain ⟨k, hk, rfl, hall⟩ := hrel
    by_cases hlt : k < xs.length
    · obtain ⟨b, o, rfl, hc⟩ := hA.int hlt
      have c0 := hc k hlt
      have HALL := Lib.hid hall
      cases he : (xs.getD k 0 == d)
      · have HN := Lib.hid (show ∀ j, j < k + 1 → (xs.getD j 0 == d) = false from fun j hj => by
          rcases Nat.lt_succ_iff_lt_or_eq.1 hj with h' | h'
          · exact HALL.out j h'
          · rw [h']; exact he)
        clear hc hA hall
        generalize xs.getD k 0 = y at *
        go_wp2_with fail
        go_round
        case rel => exact ⟨k + 1, by omega, by go_num, HN.out⟩
        case measure => simp [intOf]; omega
      · have HY := Lib.hid (hasI_yes hlt he)
        clear hc hA hall
        generalize xs.getD k 0 = y at *
        have he2 : y = d := by simpa using he
        go_wp2_with fail
        go_ret
        exact ⟨by rw [HY.out]; rfl, rfl⟩
    · obtain rfl : k = xs.length := by omega
      have HF := Lib.hid (hasI_no hall)
      clear hall
      go_wp2_with fail
      go_ret
      exact ⟨by rw [HF.out]; rfl, rfl⟩

set_option maxHeartbeats 1000000 in
theorem index_any (A : Option Addr) (c : Nat) (xs : List Int) (d : Int) (w : World) (hn : xs.length ≤ 16777216) (hA : Cells w A (ints xs)) :
    Calls Tryz.prog 88 #[.slice A xs.length c, .int .i64 d] w fun e w' => (∃ k : Int, e = .returned (.int .i64 k) ∧ decide (0 ≤ k) = hasI xs d) ∧ w = w' := by
  go_enter Tryz.func88, Tryz.ntmps88
  go_wp2
  go_loop [8] (fun i => ∃ k : Nat, k ≤ xs.length ∧ i = .int .i64 k ∧ ∀ j, j < k → (xs.getD j 0 == d) = false) (fun i => xs.length - (intOf i).toNat)
  case atStart => exact ⟨0, Nat.zero_le _, rfl, fun j hj => by omega⟩
  case round =>
    obtain ⟨k, hk, rfl, hall⟩ := hrel
    by_cases hlt : k < xs.length
    · obtain ⟨b, o, rfl, hc⟩ := hA.int hlt
      have c0 := hc k hlt
      have HALL := Lib.hid hall
      cases he : (xs.getD k 0 == d)
      · have HN := Lib.hid (show ∀ j, j < k + 1 → (xs.getD j 0 == d) = false from fun j hj => by
          rcases Nat.lt_succ_iff_lt_or_eq.1 hj with h' | h'
          · exact HALL.out j h'
          · rw [h']; exact he)
        clear hc hA hall
        generalize xs.getD k 0 = y at *
        go_wp2_with fail
        go_round
        case rel => exact ⟨k + 1, by omega, by go_num, HN.out⟩
        case measure => simp [intOf]; omega
      · have HY := Lib.hid (hasI_yes hlt he)
        clear hc hA hall
        generalize xs.getD k 0 = y at *
        have he2 : y = d := by simpa using he
        go_wp2_with fail
        go_ret
        exact ⟨⟨_, rfl, by rw [HY.out]; simp⟩, rfl⟩
    · obtain rfl : k = xs.length := by omega
      have HF := Lib.hid (hasI_no hall)
      clear hall
      go_wp2_with fail
      go_ret
      exact ⟨⟨_, rfl, by rw [HF.out]; rfl⟩, rfl⟩

set_option maxHeartbeats 1000000 in
theorem contains_any (A : Option Addr) (c : Nat) (xs : List Int) (d : Int) (w : World) (hn : xs.length ≤ 16777216) (hA : Cells w A (ints xs)) :
    Calls Tryz.prog 139 #[.slice A xs.length c, .int .i64 d] w fun e w' => e = .returned (.bool (hasI xs d)) ∧ w = w' := by
  have H := Lib.hid (index_any A c xs d w hn hA)
  go_enter Tryz.func139, Tryz.ntmps139
  go_wp2_with fail
  refine H.out.mono ?_
  rintro e w1 ⟨⟨k, rfl, hk⟩, rfl⟩
  have HK := Lib.hid hk
  clear hk
  go_wp2_with fail
  go_ret
  exact ⟨by rw [← HK.out]; rfl, rfl⟩

end Go.Proofs.YtdgnhfhaaghoaaaGreatDoor

set_option linter.unusedVariables false
namespace Go.Proofs.YtdgnhfhaaghoaaaGreatDoor
open Go.RowKit

theorem info_ci : (Tryz.prog.info? 3).map (fun i => (i.zero, i.size, i.bytes)) = some (some (.int .i64 0), 1, 8) := by kernel_rfl

theorem ints_one (xs : List Int) : ∀ u ∈ ints xs, u.oneCell' = true := by
  intro u hu
  obtain ⟨x, _, rfl⟩ := List.mem_map.1 hu
  rfl
theorem tri_one (l : List I3) : ∀ u ∈ l.flatMap tri, u.oneCell' = true := by
  intro u hu
  obtain ⟨t, _, ht⟩ := List.mem_flatMap.1 hu
  simp [tri] at ht
  rcases ht with rfl | rfl | rfl <;> rfl

theorem cells_add {w : World} {ad : Addr} {cs : List Value} (h : Cells w (some ad) cs) : ∀ j u, cs[j]? = some u → w.cell? (ad.add j) = some u := by
  intro j u hj
  obtain ⟨b, o, e, hc⟩ := h.at_ (List.getElem?_eq_some_iff.1 hj).1
  injection e with e
  subst e
  rw [Addr.add_lit]
  exact hc j u hj

theorem info_ca3 : (Tryz.prog.info? 103).map (fun i => (i.zero, i.size, i.bytes)) = some (some (.agg #[.int .i64 0, .int .i64 0, .int .i64 0]), 3, 24) := by kernel_rfl

set_option maxRecDepth 100000 in
set_option maxHeartbeats 2000000 in
theorem cloneT_any (v : Value) (l : List I3) (w : World) (hn : l.length ≤ 2000000000000) (hv : RA3 w v l) :
    Calls Tryz.prog 93 #[v] w fun e w' => ∃ u, e = .returned u ∧ w'.ownsRow w.heap.size 103 3 u l.length (l.flatMap tri) ∧ Below w.heap.size w w' := by
  obtain ⟨i0, hi, hz0, hz1, hz2⟩ := info_parts info_ca3
  have qn : ∀ (w : World) (a : Option Addr) (n c n' c' : Nat), (binOp .eql 25 (.slice a n c) (.slice none n' c')).run Tryz.prog w = .ok (.bool a.isNone) w := fun w a n c n' c' => Lib.run_eql_slice_nil w _ _ a n c n' c' Tryz.underlying25
  obtain ⟨A, c, rfl, _, hA⟩ := hv
  cases A with
  | none =>
    have h0 : l = [] := by
      cases l with
      | nil => rfl
      | cons x r =>
        obtain ⟨b, o, e, _⟩ := hA.at_ (k := 0) (by simp [tri])
        cases e
    subst h0
    go_enter Tryz.func93, Tryz.ntmps93
    go_wp2_with fail
    go_ret
    exact ⟨_, rfl, World.ownsRow_nil _ _ _ _, Below.refl _ _⟩
  | some ad =>
    have HC := Lib.hid (show ∀ W, Below w.heap.size w W → Cells W (some ad) (l.flatMap tri) from fun W hb => hA.below hb)
    clear hA
    have hba : Below w.heap.size w (w.alloc (.cells #[] 103)) := (Below.refl _ _).alloc (Nat.le_refl _) _
    have HB := Lib.hid hba
    clear hba
    go_enter Tryz.func93, Tryz.ntmps93
    go_wp2_with (at_builtin; refine wpList_append_own _ rfl _ _ 25 rfl w.heap.size 103 i0 (.agg #[.int .i64 0, .int .i64 0, .int .i64 0]) 3 24 Tryz.underlying25 hi hz0 hz1 hz2 rfl (by decide) _ _ _ rfl (World.ownsRow_made w #[] 0 (Nat.le_refl _) (Nat.zero_le _) rfl) ad l.length c (l.flatMap tri) rfl (tri_len l) (cells_add (HC.out _ HB.out)) (tri_one l) (by unfold maxLen; omega) (by omega) (by simp) ?_; intro v2 w2 hown2 hgrow2 _)
    rw [Nat.zero_add, List.nil_append] at hown2
    have HG := Lib.hid (HB.out.grown hgrow2 (by simp) (fun k hk => ((World.ownsRow_made (e := 103) (size := 3) w #[] 0 (Nat.le_refl _) (Nat.zero_le _) rfl).lt k hk).1))
    have HO := Lib.hid hown2
    clear hgrow2 hown2
    go_wp2_with fail
    go_ret
    exact ⟨_, rfl, HO.out, HG.out⟩

end Go.Proofs.YtdgnhfhaaghoaaaGreatDoor

set_option linter.unusedVariables false
namespace Go.Proofs.YtdgnhfhaaghoaaaGreatDoor
open Go.RowKit

theorem run_append_none_cap {P : Program} {w : World} (base : Nat) (t ty e : TypeId) (i : TypeInfo) (size : Nat) (ht : P.underlying t = some (.slice e)) (hi : P.info? e = some i)
    (v : Value) (n c : Nat) (xs : List Value) (hown : w.ownsRow base e size v n xs) :
    (Builtin.append_ #[t, t] ty #[v, .slice none 0 c]).run P w = .ok v w := by
  rcases hown.2 with ⟨rfl, rfl⟩ | ⟨g, cap, cur, rfl, _, _, hnc, _⟩
  · simp [Builtin.append_, run_underlying ht, sizeOf, typeInfo, hi, Builtin.lenOf, Builtin.firstCells]
  · simp [Builtin.append_, run_underlying ht, sizeOf, typeInfo, hi, Builtin.lenOf, Builtin.firstCells, hnc, storeCells]

theorem wpList_append_none_cap {P : Program} {w : World} {ops : Array Oper} {rest : List Oper} {o : Oper} {a : Act} {Q : Exit → Act → World → Prop} (hgd : o.guard = none) (s x : Operand) (t : TypeId)
    (ho : o.op = .call { callee := .builtin .append, args := #[s, x], argTypes := #[t, t] })
    (base : Nat) (e : TypeId) (i : TypeInfo) (size : Nat) (ht : P.underlying t = some (.slice e)) (hi : P.info? e = some i)
    (v : Value) (n c : Nat) (xs : List Value) (hs : a.eval s = v) (hown : w.ownsRow base e size v n xs) (hx : a.eval x = .slice none 0 c)
    (h : wpList P ops Q rest (a.put o.dst v) w) : wpList P ops Q (o :: rest) a w := by
  refine wpList_plain hgd fun K hK => ?_
  have hrun := run_append_none_cap (P := P) (w := w) base t o.type e i size ht hi v n c xs hown
  unfold Oper.wp
  simp [execOp, ho, resolve, invoke, builtin, hs, hx, hrun, Result.andThen]
  exact hK _ _ h

theorem cells_none {w : World} {cs : List Value} (h : Cells w none cs) : cs = [] := by
  cases cs with
  | nil => rfl
  | cons x r =>
    obtain ⟨b, o, e, _⟩ := h.at_ (k := 0) (by simp)
    cases e

set_option maxRecDepth 100000 in
set_option maxHeartbeats 2000000 in
theorem l1Own_any (A : Option Addr) (c : Nat) (xs : List Int) (w : World) (hn : xs.length ≤ 16777216) (hA : Cells w A (ints xs)) :
    Calls Tryz.prog 91 #[.slice A xs.length c] w fun e w' => ∃ u, e = .returned u ∧ w'.ownsRow w.heap.size 3 1 u xs.length (ints xs) ∧ Below w.heap.size w w' := by
  obtain ⟨i0, hi, hz0, hz1, hz2⟩ := info_parts info_ci
  have hba : Below w.heap.size w (w.alloc (.cells #[] 3)) := (Below.refl _ _).alloc (Nat.le_refl _) _
  have HB := Lib.hid hba
  clear hba
  cases A with
  | none =>
    have h0 : xs = [] := by have := cells_none hA; simpa [ints] using this
    subst h0
    go_enter Tryz.func91, Tryz.ntmps91
    go_wp2_with (at_builtin; refine wpList_append_none_cap rfl _ _ 30 rfl w.heap.size 3 i0 1 Tryz.underlying30 hi _ _ _ _ rfl (World.ownsRow_made w #[] 0 (Nat.le_refl _) (Nat.zero_le _) rfl) rfl ?_)
    go_ret
    exact ⟨_, rfl, World.ownsRow_made w #[] 0 (Nat.le_refl _) (Nat.zero_le _) rfl, HB.out⟩
  | some ad =>
    have HC := Lib.hid (show ∀ W, Below w.heap.size w W → Cells W (some ad) (ints xs) from fun W hb => hA.below hb)
    clear hA
    go_enter Tryz.func91, Tryz.ntmps91
    go_wp2_with (at_builtin; refine wpList_append_own _ rfl _ _ 30 rfl w.heap.size 3 i0 (.int .i64 0) 1 8 Tryz.underlying30 hi hz0 hz1 hz2 rfl (by decide) _ _ _ rfl (World.ownsRow_made w #[] 0 (Nat.le_refl _) (Nat.zero_le _) rfl) ad xs.length c (ints xs) rfl (by simp) (cells_add (HC.out _ HB.out)) (ints_one xs) (by unfold maxLen; omega) (by omega) (by simp) ?_; intro v2 w2 hown2 hgrow2 _)
    rw [Nat.zero_add, List.nil_append] at hown2
    have HG := Lib.hid (HB.out.grown hgrow2 (by simp) (fun k hk => ((World.ownsRow_made (e := 3) (size := 1) w #[] 0 (Nat.le_refl _) (Nat.zero_le _) rfl).lt k hk).1))
    have HO := Lib.hid hown2
    clear hgrow2 hown2
    go_wp2_with fail
    go_ret
    exact ⟨_, rfl, HO.out, HG.out⟩

end Go.Proofs.YtdgnhfhaaghoaaaGreatDoor
