/- The reference's round in which two states come apart: walked. Plain parts of the reference's formula for two states; lists of rows that grow. -/
import Derived.Test.YtdgnhfhaaghoaaaGreatDoorProg
import Derived.Test.YtdgnhfhaaghoaaaGreatDoorJ11
import Derived.Test.YtdgnhfhaaghoaaaGreatDoorJ20
import Derived.Test.YtdgnhfhaaghoaaaGreatDoorJ2
import Derived.Test.YtdgnhfhaaghoaaaGreatDoorJ27
import Derived.Test.YtdgnhfhaaghoaaaGreatDoorJ30
import Derived.Test.YtdgnhfhaaghoaaaGreatDoorJ26
import Derived.Test.YtdgnhfhaaghoaaaGreatDoorJ31
set_option linter.unusedSimpArgs false
set_option linter.unusedVariables false
namespace Go.Proofs.YtdgnhfhaaghoaaaGreatDoor
open Go.RowKit

set_option maxRecDepth 100000 in
set_option maxHeartbeats 2000000 in
theorem l11Round_any (l : Lab) (M g cg s t : Nat) (w : World) (hM : M + 1 ≤ l.shows.length) (hn : l.shows.length ≤ 40) (hs : s < l.shows.length) (ht : t < l.shows.length) (hrv : RSS w (.slice (some ⟨g, 0, none⟩) (M + 1) cg) (rowsTo (partsL l) (M + 1))) :
    Calls Tryz.prog 59 #[.slice (some ⟨g, 0, none⟩) (M + 1) cg, .int .i64 s, .int .i64 t] w fun e w' => e = .returned (.int .i64 (idxR (M + 1) (fun j => (partsL l j).getD s 0 != (partsL l j).getD t 0))) ∧ Below w.heap.size w w' := by
  obtain ⟨p, hp⟩ : ∃ p : Nat → Bool, p = fun j => (partsL l j).getD s 0 != (partsL l j).getD t 0 := ⟨_, rfl⟩
  rw [← hp]
  have HP := Lib.hid (fun j => show p j = ((partsL l j).getD s 0 != (partsL l j).getD t 0) from by rw [hp])
  obtain ⟨g', cg', vs, e, _, hvl, hcs, hrows⟩ := hrv
  rw [rowsTo_len] at e hvl
  injection e with e1 e2 e3
  subst e3
  subst e1
  have HR := Lib.hid (show ∀ j, j < M + 1 → ∃ Aj aj, ∀ W, Below w.heap.size w W → W.cell? ⟨g, j, none⟩ = some (.slice Aj l.shows.length aj) ∧ Cells W Aj (ints (partsL l j)) from fun j hj => by
    obtain ⟨gb, go, eg, hgc⟩ := hcs.at_ (k := j) (by omega)
    cases eg
    obtain ⟨Ap, dp, eu, _, hAp⟩ := hrows j _ _ (List.getElem?_eq_getElem (by omega)) (List.getElem?_eq_getElem (by rw [rowsTo_len]; omega))
    rw [rowsTo_at] at eu hAp
    rw [parts_len] at eu
    have hgm := hgc j _ (List.getElem?_eq_getElem (by omega))
    rw [eu, Nat.zero_add] at hgm
    exact ⟨Ap, dp, fun W hW => ⟨cell_below hW hgm (lt_of_cell hgm), hAp.below hW⟩⟩)
  have HPL := Lib.hid (fun j => parts_len l j)
  clear hp hcs hrows hvl
  go_enter Tryz.func59, Tryz.ntmps59
  go_wp2_with fail
  go_loopw [7] (fun i wr => ∃ k : Nat, k ≤ M + 1 ∧ i = .int .i64 k ∧ NoB p k ∧ Below w.heap.size w wr) (fun i _ => M + 1 - (intOf i).toNat)
  case atStart => exact ⟨0, Nat.zero_le _, rfl, fun j hj => by omega, Below.refl _ _⟩
  case round =>
    obtain ⟨k, hk, rfl, hno, hbel⟩ := hrel
    by_cases hlt : k < M + 1
    · obtain ⟨Ak, ak, hW⟩ := HR.out k hlt
      obtain ⟨ck, hC⟩ := hW wr hbel
      have hpl := HPL.out k
      obtain ⟨b, o, rfl, hc⟩ := hC.int (k := s) (by omega)
      have c1 := hc s (by omega)
      have c2 := hc t (by omega)
      have q0 : (0 : Int) ≤ (s : Int) := by omega
      have q1 : (s : Int) < (l.shows.length : Int) := by omega
      have q2 : (0 : Int) ≤ (t : Int) := by omega
      have q3 : (t : Int) < (l.shows.length : Int) := by omega
      have q4 : (0 : Int) ≤ (k : Int) := by omega
      have q5 : (k : Int) < (M : Int) + 1 := by omega
      have HB := Lib.hid hbel
      have hpk := HP.out k
      cases hp : p k
      · have HN := Lib.hid (show NoB p (k + 1) from none_next hno hp)
        rw [hp] at hpk
        replace hpk := hpk.symm
        clear hc hC hW hbel hno hp hpl
        generalize (partsL l k).getD s 0 = a at *
        generalize (partsL l k).getD t 0 = d at *
        go_wp2_with fail
        go_quiet (fail)
        have HB2 := Lib.hid (below_drewN' HB.out nq)
        go_wp2_with fail
        go_roundw
        case rel => exact ⟨k + 1, by omega, by go_num, HN.out, HB2.out⟩
        case measure => simp [intOf]; omega
      · have HE := Lib.hid (idxR_some hlt hno hp)
        rw [hp] at hpk
        replace hpk := hpk.symm
        clear hc hC hW hbel hno hp hpl
        generalize (partsL l k).getD s 0 = a at *
        generalize (partsL l k).getD t 0 = d at *
        go_wp2_with fail
        go_quiet (fail)
        have HB2 := Lib.hid (below_drewN' HB.out nq)
        go_wp2_with fail
        go_ret
        exact ⟨by rw [HE.out]; rfl, HB2.out⟩
    · obtain rfl : k = M + 1 := by omega
      have HE := Lib.hid (idxR_none hno)
      have HB := Lib.hid hbel
      clear hno hbel
      go_wp2_with fail
      go_ret
      exact ⟨by rw [HE.out]; rfl, HB.out⟩

end Go.Proofs.YtdgnhfhaaghoaaaGreatDoor

set_option linter.unusedVariables false
namespace Go.Proofs.YtdgnhfhaaghoaaaGreatDoor
open Go.RowKit

/-- A list of rows, all of them new. -/
def LRows (w : World) (B : Nat) (u : Value) (xss : List (List Int)) : Prop :=
  ∃ vs : List Value, w.ownsRow B 30 1 u xss.length vs ∧ ∀ (i : Nat) v xs, vs[i]? = some v → xss[i]? = some xs → w.ownsRow B 3 1 v xs.length (ints xs)
section
variable {w w1 w2 w' : World} {B : Nat} {u u2 r : Value} {l : List (List Int)} {x : List Int}
theorem LRows.below {B2 : Nat} (h : LRows w B u l) (hb : Below B2 w w') (hB : w.heap.size ≤ B2) : LRows w' B u l := by
  obtain ⟨vs, h1, h2⟩ := h
  exact ⟨vs, owns_below h1 hb hB, fun i v xs a b => owns_below (h2 i v xs a b) hb hB⟩
theorem LRows.nil (h : w.ownsRow B 30 1 u 0 []) : LRows w B u [] := ⟨[], h, fun i v xs h => by simp at h⟩
theorem LRows.push {vs : List Value} (h1 : w1.ownsRow B 30 1 u l.length vs) (h2 : ∀ (i : Nat) v xs, vs[i]? = some v → l[i]? = some xs → w1.ownsRow B 3 1 v xs.length (ints xs))
    (hr : w1.ownsRow B 3 1 r x.length (ints x)) (ho : w2.ownsRow B 30 1 u2 (l.length + 1) (vs ++ [r])) (hk : Kept (fun q => u.ownBlock = some q) w1 w2) : LRows w2 B u2 (l ++ [x]) := by
  have hvl : vs.length = l.length := by have := h1.1; omega
  refine ⟨vs ++ [r], by rw [List.length_append]; exact ho, fun i v xs hv hx => ?_⟩
  rcases Nat.lt_trichotomy i vs.length with hi | hi | hi
  · rw [List.getElem?_append_left hi] at hv
    rw [List.getElem?_append_left (by omega)] at hx
    have ha := h2 i v xs hv hx
    exact owns_kept ha hk (fun g hgv => owns_apart' ha h1 (by decide) g hgv)
  · subst hi
    rw [List.getElem?_append_right (Nat.le_refl _), Nat.sub_self] at hv
    rw [hvl, List.getElem?_append_right (Nat.le_refl _), Nat.sub_self] at hx
    simp at hv hx
    subst hv
    subst hx
    exact owns_kept hr hk (fun g hgv => owns_apart' hr h1 (by decide) g hgv)
  · rw [List.getElem?_eq_none (by simp; omega)] at hv
    cases hv
theorem LRows.lists (h : LRows w B u l) : ∃ A c, u = .slice A l.length c ∧ l.length ≤ c ∧ Lists w w.heap.size A l := by
  obtain ⟨vs, h1, h2⟩ := h
  rcases h1.2 with ⟨e, e2⟩ | ⟨g, cap, cur, rfl, _, _, hc, _⟩
  · have hl : l = [] := List.length_eq_zero_iff.1 e2
    subst hl
    have hv : vs = [] := List.length_eq_zero_iff.1 (by have := h1.1; simpa using this)
    subst hv
    exact ⟨none, 0, e, Nat.le_refl _, [], rfl, Cells.nil _ _, fun i v xs h => by simp at h⟩
  · refine ⟨some ⟨g, 0, none⟩, cap, rfl, hc, vs, by have := h1.1; omega, Cells.of_owns h1, fun i v xs a b => ⟨owns_mono (h2 i v xs a b) (Nat.zero_le _), fun q hq => ((h2 i v xs a b).lt q hq).2⟩⟩
end

theorem mapO_take {ap : Int → Option (List Int)} {os : List Int} {k : Nat} {a : List Int} {r : List (List Int)} (hk : k < os.length) (h : mapO ap (os.take k) = some r) (ha : ap (os.getD k 0) = some a) : mapO ap (os.take (k + 1)) = some (r ++ [a]) := by
  induction os generalizing k r with
  | nil => simp at hk
  | cons o os ih =>
    cases k with
    | zero =>
      simp [mapO] at h
      subst h
      have ha' : ap o = some a := ha
      simp [mapO, ha']
    | succ k =>
      rw [List.take_succ_cons, mapO] at h
      rw [List.take_succ_cons, mapO]
      cases ho : ap o with
      | none => rw [ho] at h; cases h
      | some b =>
        rw [ho] at h
        dsimp only at h ⊢
        cases hr : mapO ap (os.take k) with
        | none => rw [hr] at h; cases h
        | some r' =>
          rw [hr] at h
          injection h with h
          rw [ih (by simpa using hk) hr ha, ← h]
          rfl
theorem mapO_stop {ap : Int → Option (List Int)} {os : List Int} {k : Nat} (hk : k < os.length) (ha : ap (os.getD k 0) = none) : mapO ap os = none := by
  induction os generalizing k with
  | nil => simp at hk
  | cons o os ih =>
    cases k with
    | zero =>
      have ha' : ap o = none := ha
      simp [mapO, ha']
    | succ k =>
      rw [mapO, ih (by simpa using hk) ha]
      cases ap o <;> rfl
theorem mapO_lens {ap : Int → Option (List Int)} (hap : ∀ o a, ap o = some a → a.length ≤ 200) : ∀ {os : List Int} {r : List (List Int)}, mapO ap os = some r → ∀ xs ∈ r, xs.length ≤ 200
  | [], r, h => by simp [mapO] at h; subst h; simp
  | o :: os, r, h => by
    rw [mapO] at h
    split at h
    · cases h
    · rename_i a ha
      split at h
      · cases h
      · rename_i r' hr
        injection h with h
        subst h
        intro xs hx
        rcases List.mem_cons.1 hx with rfl | hx
        · exact hap o _ ha
        · exact mapO_lens hap hr xs hx

/-- Where the first lonely step lies. -/
theorem lonely_idx (ss : List I3) (parts : List Int) (s t : Nat) : (lonely ss parts s t = none ∧ idxR ss.length (fun q => lonelyB ss parts s t (ss.getD q (0, 0, 0))) = -1) ∨ ∃ q, ∃ h : q < ss.length, lonely ss parts s t = some ss[q] ∧ idxR ss.length (fun q => lonelyB ss parts s t (ss.getD q (0, 0, 0))) = (q : Int) := by
  unfold idxR
  cases hf : (List.range ss.length).find? (fun q => lonelyB ss parts s t (ss.getD q (0, 0, 0))) with
  | none =>
    refine .inl ⟨?_, rfl⟩
    rw [List.find?_eq_none] at hf
    exact noLone_all (fun q hq => by simpa using hf q (List.mem_range.2 hq))
  | some q =>
    obtain ⟨h1, h2, h3⟩ := find_range hf
    refine .inr ⟨q, h1, ?_, rfl⟩
    have e : ss.getD q (0, 0, 0) = ss[q] := by simp [List.getD, h1]
    exact lone_at h3 h1 (by rw [← e]; exact h2)

/-- What the reference gives: a row of bounded length, the formula where there is one. -/
def ARes (o : Option (List Int)) (b : Nat) (w w' : World) (r : Value) : Prop := ∃ xs : List Int, w'.ownsRow w.heap.size 3 1 r xs.length (ints xs) ∧ xs.length ≤ b ∧ ∀ g, o = some g → xs = g

/-- The facts of the region that asks for one formula: the call (b8). -/
structure CF (wr : World) (o : Option (List Int)) (b8 : Bool) (r : Value) (W : World) : Prop where
  z : Below wr.heap.size wr W
  h8 : b8 = true → ∃ xs : List Int, W.ownsRow wr.heap.size 3 1 r xs.length (ints xs) ∧ xs.length ≤ 4001000 ∧ ∀ g, o = some g → xs = g
theorem CF.start (wr : World) (o : Option (List Int)) (r : Value) : CF wr o false r wr.drew := ⟨(Below.refl _ _).drew, fun h => (nomatch h)⟩
theorem CF.called {wr W W' : World} {o : Option (List Int)} {r r' : Value} {b : Nat} (h : CF wr o false r W) (hb : Below W.heap.size W W') (hr : ARes o b W W' r') (hl : b ≤ 4001000) : CF wr o true r' W' :=
  ⟨h.z.trans (hb.mono h.z.size), fun _ => by obtain ⟨xs, h1, h2, h3⟩ := hr; exact ⟨xs, owns_mono h1 h.z.size, by omega, h3⟩⟩

/-- The facts of the region of the reference's answer: the row [4, a] (b2), the conjunction (b4), both (b5). -/
structure GF (wr : World) (a : Int) (G : List Int) (b2 b4 b5 : Bool) (bb : Nat) (r v : Value) (W : World) : Prop where
  o1 : b5 = true → b2 = true ∧ b4 = true
  z : Below wr.heap.size wr W
  h2 : b2 = true → b5 = false → W.ownsRow wr.heap.size 3 1 (.slice (some ⟨bb, 0, none⟩) 2 2) 2 [.int .i64 4, .int .i64 a]
  h4 : b4 = true → b5 = false → W.ownsRow 0 3 1 r G.length (ints G)
  h5 : b5 = true → W.ownsRow wr.heap.size 3 1 v (4 :: a :: G).length (ints (4 :: a :: G))
section
variable {wr W W' : World} {a : Int} {G : List Int} {b2 b4 b5 : Bool} {bb : Nat} {r v : Value}
theorem GF.start (bb : Nat) (r v : Value) : GF wr a G false false false bb r v wr.drew :=
  { o1 := fun h => (nomatch h), z := (Below.refl _ _).drew, h2 := fun h => (nomatch h), h4 := fun h => (nomatch h), h5 := fun h => (nomatch h) }
theorem GF.build (h : GF wr a G false b4 b5 bb r v W) : GF wr a G true b4 b5 W.heap.size r v (W.alloc (.cells #[.int .i64 4, .int .i64 a] 3)) := by
  have e5 : b5 = false := by cases b5; rfl; exact absurd (h.o1 rfl).1 (by simp)
  subst e5
  have hb : Below W.heap.size W (W.alloc (.cells #[.int .i64 4, .int .i64 a] 3)) := (Below.refl _ _).alloc (Nat.le_refl _) _
  exact { o1 := fun h => (nomatch h), z := h.z.trans (hb.mono h.z.size), h2 := fun _ _ => owns_mono (ownsRow_lit (n := 2) (xs := [.int .i64 4, .int .i64 a]) (heap_alloc_new _ _) rfl (by unfold maxLen; omega)) h.z.size, h4 := fun h1 h2 => owns_below (h.h4 h1 h2) hb (Nat.le_refl _), h5 := fun h => (nomatch h) }
theorem GF.called {r' : Value} (h : GF wr a G b2 false b5 bb r v W) (hb : Below W.heap.size W W') (hr : W'.ownsRow 0 3 1 r' G.length (ints G)) : GF wr a G b2 true b5 bb r' v W' := by
  have e5 : b5 = false := by cases b5; rfl; exact absurd (h.o1 rfl).2 (by simp)
  subst e5
  exact { o1 := fun h => (nomatch h), z := h.z.trans (hb.mono h.z.size), h2 := fun h1 h2 => owns_below (h.h2 h1 h2) hb (Nat.le_refl _), h4 := fun _ _ => hr, h5 := fun h => (nomatch h) }
theorem GF.app {v' : Value} (h : GF wr a G true true false bb r v W) (ho : W'.ownsRow wr.heap.size 3 1 v' (2 + G.length) ([.int .i64 4, .int .i64 a] ++ ints G)) (hk : Kept (fun q => (Value.slice (some ⟨bb, 0, none⟩) 2 2).ownBlock = some q) W W') : GF wr a G true true true bb r v' W' := by
  have hlt := h.h2 rfl rfl
  have e1 : (4 :: a :: G).length = 2 + G.length := by simp; omega
  have e2 : ints (4 :: a :: G) = [.int .i64 4, .int .i64 a] ++ ints G := by simp [ints]
  exact { o1 := fun _ => ⟨rfl, rfl⟩, z := below_kept h.z hk (fun q hq => (hlt.lt q hq).1) h.z.size, h2 := fun _ h => (nomatch h), h4 := fun _ h => (nomatch h), h5 := fun _ => by rw [e1, e2]; exact ho }
end

end Go.Proofs.YtdgnhfhaaghoaaaGreatDoor
