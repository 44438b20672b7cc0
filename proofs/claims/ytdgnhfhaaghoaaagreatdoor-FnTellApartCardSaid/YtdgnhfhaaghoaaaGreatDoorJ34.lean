/- The reference's TellApart, walked. Formulas: each list that is one has its tree; what is told of it by lists and what by trees. Plain law. Rows of bools that are set place by place, as the steps of a labelled system tell. No program is in sight. -/
import Derived.Test.YtdgnhfhaaghoaaaGreatDoorProg
import Derived.Test.YtdgnhfhaaghoaaaGreatDoorJ29
import Derived.Test.YtdgnhfhaaghoaaaGreatDoorJ33
import Derived.Test.YtdgnhfhaaghoaaaGreatDoorJ25
import Derived.Test.YtdgnhfhaaghoaaaGreatDoorJ23
import Derived.Test.YtdgnhfhaaghoaaaGreatDoorJ24
set_option linter.unusedSimpArgs false
set_option linter.unusedVariables false
namespace Go.Proofs.YtdgnhfhaaghoaaaGreatDoor
open Go.RowKit

theorem parts_down {l : Lab} {i j m : Nat} (hi : i < l.shows.length) (hj : j < l.shows.length) : ∀ d, (partsL l (m + d)).getD i 0 = (partsL l (m + d)).getD j 0 → (partsL l m).getD i 0 = (partsL l m).getD j 0
  | 0, h => h
  | d + 1, h => parts_down hi hj d (parts_finer l (m + d) hi hj h)
theorem idx_same {l : Lab} {M i j : Nat} (hM : IsRounds l M) (hi : i < l.shows.length) (hj : j < l.shows.length) (h : ((lastL l).getD i 0 == (lastL l).getD j 0) = true) : idxR (M + 1) (fun m => (partsL l m).getD i 0 != (partsL l m).getD j 0) = -1 := by
  refine idxR_none fun m hm => ?_
  have h1 : (partsL l M).getD i 0 = (partsL l M).getD j 0 := by rw [isRounds_last hM]; simpa using h
  have h2 := parts_down (m := m) hi hj (M - m) (by rw [show m + (M - m) = M by omega]; exact h1)
  rw [h2, bne_self_eq_false]
theorem idx_diff {l : Lab} {M i j k : Nat} (hM : IsRounds l M) (h : roundOf l i j = some k) : idxR (M + 1) (fun m => (partsL l m).getD i 0 != (partsL l m).getD j 0) = (k : Int) := (round_kept hM h).2

set_option maxRecDepth 100000 in
set_option maxHeartbeats 8000000 in
theorem specTellApart_any (v : Value) (l : Lab) (s t : Int) (w : World) (hs : SmallLab l) (hv : RLab w v l) :
    Calls Tryz.prog 12 #[v, .int .i64 s, .int .i64 t] w fun e w' => ∃ r, e = .returned (.tuple #[r, .bool (tellO l s t).isSome]) ∧ w'.ownsRow w.heap.size 3 1 r ((tellO l s t).getD []).length (ints ((tellO l s t).getD [])) ∧ Below w.heap.size w w' := by
  have HV := Lib.hid (show ∀ W, Below w.heap.size w W → RLab W v l from fun W hb => hv.below hb)
  have HS := Lib.hid (fun W x (hb : Below w.heap.size w W) => show Calls Tryz.prog 57 #[v, .int .i64 x] W (fun e w' => e = .returned (.bool (goodLab l && stB l x)) ∧ Below W.heap.size W w') from l11State_any v l x W hs (hv.below hb))
  have HR := Lib.hid (fun W (hg : goodLab l = true) (hb : Below w.heap.size w W) => l11Rounds_any v l W hs (by have := goodF_many hg; omega) (goodF_size hg).1 (goodF_size hg).2 (goodF_steps hg) (goodF_acts hg) (hv.below hb))
  have HSM := Lib.hid hs
  obtain ⟨sv, tv, rfl, hsv, htv⟩ := hv
  obtain ⟨A1, c1, vs, rfl, _, _, _, _⟩ := id hsv
  obtain ⟨D, d, rfl, _, _⟩ := id htv
  obtain ⟨W0, hW0⟩ : ∃ W0, W0 = w.alloc (.cells #[.slice A1 l.shows.length c1, .slice D l.steps.length d] 27) := ⟨_, rfl⟩
  have hz0 : Below w.heap.size w W0 := by rw [hW0]; exact (Below.refl _ _).alloc (Nat.le_refl _) _
  have hs0 : W0.heap.size = w.heap.size + 1 := by rw [hW0]; simp
  have bx0 : W0.heap[w.heap.size]? = some (.cells #[.slice A1 l.shows.length c1, .slice D l.steps.length d] 27) := by rw [hW0]; exact heap_alloc_new _ _
  have HX := Lib.hid (show ∀ W, Below W0.heap.size W0 W → W.cell? ⟨w.heap.size, 0, none⟩ = some (.slice A1 l.shows.length c1) ∧ W.cell? ⟨w.heap.size, 1, none⟩ = some (.slice D l.steps.length d) from fun W hW => by
    have := (hW.block _ (by omega)).trans bx0
    exact ⟨cell_of_row _ _ _ _ _ _ this, cell_of_row _ _ _ _ _ _ this⟩)
  have HZ0 := Lib.hid hz0
  have HBAD := Lib.hid (fun (h : okST l s t = false) => tellO_bad h)
  obtain ⟨x0, x1⟩ := HX.out W0 (Below.refl _ _)
  have hst0 := HS.out W0 s hz0
  rw [hW0] at x0 x1
  have HW0 := Lib.hid hW0
  clear hsv htv bx0 hz0 hW0
  cases hgs : (goodLab l && stB l s)
  · have HN := Lib.hid (HBAD.out (by unfold okST; rw [hgs]; rfl))
    rw [hgs] at hst0
    have HST := Lib.hid hst0
    clear hgs hst0
    go_enter Tryz.func12, Tryz.ntmps12
    go_wp2_with fail
    rw [← HW0.out]
    (with_reducible refine HST.out.mono ?_)
    rintro e w1 ⟨rfl, hb1⟩
    have HB1 := Lib.hid (HZ0.out.trans (hb1.mono HZ0.out.size))
    have hs1 := HB1.out.size
    clear hb1
    have HO := Lib.hid (made_row w1 3)
    go_wp2_with fail
    go_ret2
    exact ⟨_, by rw [HN.out]; rfl, by rw [HN.out]; exact owns_mono HO.out hs1, HB1.out.alloc hs1 _⟩
  · rw [hgs] at hst0
    have HST := Lib.hid hst0
    have HGS := Lib.hid hgs
    cases htt : stB l t
    · have HN := Lib.hid (HBAD.out (by unfold okST; rw [hgs, htt]; rfl))
      have HTT := Lib.hid (show (goodLab l && stB l t) = false from by rw [htt, Bool.and_false])
      clear hgs hst0 htt
      go_enter Tryz.func12, Tryz.ntmps12
      go_wp2_with fail
      rw [← HW0.out]
      (with_reducible refine HST.out.mono ?_)
      rintro e w1 ⟨rfl, hb1⟩
      have HB1 := Lib.hid (HZ0.out.trans (hb1.mono HZ0.out.size))
      obtain ⟨y0, y1⟩ := HX.out w1 hb1
      have hst1 := HS.out w1 t HB1.out
      rw [HTT.out] at hst1
      have HST1 := Lib.hid hst1
      have hs1 := HB1.out.size
      clear hb1 hst1
      go_wp2_with fail
      (with_reducible refine HST1.out.mono ?_)
      rintro e w2 ⟨rfl, hb2⟩
      have HB2 := Lib.hid (HB1.out.trans (hb2.mono hs1))
      have hs2 := HB2.out.size
      clear hb2
      have HO := Lib.hid (made_row w2 3)
      go_wp2_with fail
      go_ret2
      exact ⟨_, by rw [HN.out]; rfl, by rw [HN.out]; exact owns_mono HO.out hs2, HB2.out.alloc hs2 _⟩
    · rw [Bool.and_eq_true] at hgs
      obtain ⟨hg, hss⟩ := hgs
      have HOK := Lib.hid (show okST l s t = true from by unfold okST; rw [hg, hss, htt]; rfl)
      have HTT := Lib.hid (show (goodLab l && stB l t) = true from by rw [hg, htt]; rfl)
      have HGD := Lib.hid hg
      obtain ⟨i, rfl, hi⟩ := stB_true hss
      obtain ⟨j, rfl, hj⟩ := stB_true htt
      have hn40 := (goodF_size hg).2
      clear hg hss hst0 htt
      go_enter Tryz.func12, Tryz.ntmps12
      go_wp2_with fail
      rw [← HW0.out]
      (with_reducible refine HST.out.mono ?_)
      rintro e w1 ⟨rfl, hb1⟩
      have HB1 := Lib.hid (HZ0.out.trans (hb1.mono HZ0.out.size))
      have HB1' := Lib.hid hb1
      obtain ⟨y0, y1⟩ := HX.out w1 hb1
      have hst1 := HS.out w1 (j : Int) HB1.out
      rw [HTT.out] at hst1
      have HST1 := Lib.hid hst1
      have hs1 := HB1.out.size
      have hs1' := hb1.size
      clear hb1 hst1
      go_wp2_with fail
      (with_reducible refine HST1.out.mono ?_)
      rintro e w2 ⟨rfl, hb2⟩
      have HB2 := Lib.hid (HB1.out.trans (hb2.mono hs1))
      have hb2' := HB1'.out.trans (hb2.mono hs1')
      have HB2' := Lib.hid hb2'
      obtain ⟨z0, z1⟩ := HX.out w2 hb2'
      have HR2 := Lib.hid (HR.out w2 HGD.out HB2.out)
      have hs2 := HB2.out.size
      have hs2' := hb2'.size
      clear hb2 y0 y1 hb2' x0 x1
      go_wp2_with fail
      (with_reducible refine HR2.out.mono ?_)
      rintro e w3 ⟨u, M, rfl, hM, hT, hb3⟩
      have HB3 := Lib.hid (HB2.out.trans (hb3.mono hs2))
      have HB3' := Lib.hid (HB2'.out.trans (hb3.mono hs2'))
      have hs3 := HB3.out.size
      have hs3' := HB3'.out.size
      have hM40 := hM.1
      obtain ⟨g, cg, b, d', e, _, _⟩ := hT.rowAt (i := M) (by rw [rowsTo_len]; omega)
      rw [rowsTo_len] at e
      subst e
      have hrv := hT.rows.rss (by rw [rowsTo_len]; omega) (fun xs hx => by
        obtain ⟨j', hj', rfl⟩ := List.getElem_of_mem hx
        rw [rowsTo_at, parts_len]
        omega)
      have HRV := Lib.hid (show ∀ W, Below w3.heap.size w3 W → RSS W (.slice (some ⟨g, 0, none⟩) (M + 1) cg) (rowsTo (partsL l) (M + 1)) from fun W hW => hrv.below hW)
      have HRO := Lib.hid (l11Round_any l M g cg i j w3 hM40 hn40 hi hj hrv)
      have HMM := Lib.hid hM
      clear hb3 z0 z1 hT hrv hM
      go_wp2_with fail
      cases hxx : ((lastL l).getD i 0 == (lastL l).getD j 0)
      · obtain ⟨⟨k, hk⟩, hleft⟩ : (∃ k, roundOf l i j = some k) ∧ leftA l i j < 200 := by
          rcases round_differs HMM.out hxx with h | h
          · exact h
          · omega
        have HN := Lib.hid (show tellO l (i : Int) (j : Int) = apart l 200 i j from tellO_some HOK.out hxx)
        have hro := HRO.out
        rw [idx_diff HMM.out hk] at hro
        have HRO := Lib.hid hro
        have HK := Lib.hid hk
        clear hro hxx hk
        (with_reducible refine HRO.out.mono ?_)
        rintro e w4 ⟨rfl, hb4⟩
        have HB4 := Lib.hid (HB3.out.trans (hb4.mono hs3))
        have HB34 := Lib.hid hb4
        have hs4 := HB4.out.size
        obtain ⟨y0, y1⟩ := HX.out w4 (HB3'.out.trans (hb4.mono hs3'))
        have HAP := Lib.hid (l11Apart_any l M HMM.out HGD.out HSM.out w4 _ (HV.out w4 HB4.out) g cg (HRV.out w4 hb4) 200 i j hi hj ⟨k, HK.out⟩ hleft (by omega) w4 (Below.refl _ _))
        clear hb4 hleft
        cases ha : apart l 200 i j with
        | none =>
          rw [ha] at HAP
          have HA := Lib.hid ha
          clear ha
          go_wp2_with fail
          (with_reducible refine HAP.out.mono ?_)
          rintro e w5 ⟨r, rfl, _, hb5⟩
          have HB5 := Lib.hid (HB4.out.trans (hb5.mono hs4))
          have hs5 := HB5.out.size
          clear hb5
          have HO := Lib.hid (made_row w5 3)
          go_wp2_with fail
          go_ret2
          exact ⟨_, by rw [HN.out, HA.out]; rfl, by rw [HN.out, HA.out]; exact owns_mono HO.out hs5, HB5.out.alloc hs5 _⟩
        | some f0 =>
          rw [ha] at HAP
          have HA := Lib.hid ha
          clear ha
          go_wp2_with fail
          (with_reducible refine HAP.out.mono ?_)
          rintro e w5 ⟨r, rfl, ⟨xs, ho, _, hx⟩, hb5⟩
          obtain rfl := hx f0 rfl
          have HB5 := Lib.hid (HB4.out.trans (hb5.mono hs4))
          have HO := Lib.hid (owns_mono ho hs4)
          clear hb5 ho hx
          go_wp2_with fail
          go_ret2
          exact ⟨_, by rw [HN.out, HA.out]; rfl, by rw [HN.out, HA.out]; exact HO.out, HB5.out⟩
      · have HN := Lib.hid (tellO_same (l := l) (s := (i : Int)) (t := (j : Int)) (by rw [Int.toNat_natCast, Int.toNat_natCast]; exact hxx))
        have hro := HRO.out
        rw [idx_same HMM.out hi hj hxx] at hro
        have HRO := Lib.hid hro
        clear hro hxx
        (with_reducible refine HRO.out.mono ?_)
        rintro e w4 ⟨rfl, hb4⟩
        have HB4 := Lib.hid (HB3.out.trans (hb4.mono hs3))
        have hs4 := HB4.out.size
        clear hb4
        have HO := Lib.hid (made_row w4 3)
        go_wp2_with fail
        go_ret2
        exact ⟨_, by rw [HN.out]; rfl, by rw [HN.out]; exact owns_mono HO.out hs4, HB4.out.alloc hs4 _⟩

def tellR (l : Lab) (s t : Int) : List Int := (tellO l s t).getD []
def tellOk (l : Lab) (s t : Int) : Bool := (tellO l s t).isSome
theorem tellR_len (l : Lab) (s t : Int) : (tellR l s t).length ≤ 200 := by
  unfold tellR
  cases h : tellO l s t with
  | none => simp
  | some g =>
    unfold tellO at h
    split at h
    · exact apart_len h
    · cases h
theorem implTellR_any (v : Value) (l : Lab) (s t : Int) (w : World) (hs : SmallLab l) (hv : RLab w v l) :
    Calls Tryz.prog 11 #[v, .int .i64 s, .int .i64 t] w fun e w' => ∃ r, e = .returned (.tuple #[r, .bool (tellOk l s t)]) ∧ w'.ownsRow w.heap.size 3 1 r (tellR l s t).length (ints (tellR l s t)) ∧ Below w.heap.size w w' := implTellApart_any v l s t w hs hv
theorem specTellR_any (v : Value) (l : Lab) (s t : Int) (w : World) (hs : SmallLab l) (hv : RLab w v l) :
    Calls Tryz.prog 12 #[v, .int .i64 s, .int .i64 t] w fun e w' => ∃ r, e = .returned (.tuple #[r, .bool (tellOk l s t)]) ∧ w'.ownsRow w.heap.size 3 1 r (tellR l s t).length (ints (tellR l s t)) ∧ Below w.heap.size w w' := specTellApart_any v l s t w hs hv

end Go.Proofs.YtdgnhfhaaghoaaaGreatDoor

set_option linter.unusedVariables false
namespace Go.Proofs.YtdgnhfhaaghoaaaGreatDoor

theorem end_tree {a : Fo} (ha : a.ok) : fEnd a.code.length a.code (0 : Nat) = (a.code.length : Int) := by
  have := end_code a ha [] [] a.code.length (Nat.le_refl _)
  simpa using this
theorem sat_tree (l : Lab) (hst : ∀ s ∈ l.steps, ∃ j : Nat, s.2.2 = (j : Int) ∧ j < l.shows.length) {a : Fo} (ha : a.ok) : satB l a.code a.code.length 0 = a.rows l := by
  have := sat_code l hst a ha [] [] a.code.length (Nat.le_refl _)
  simpa using this

end Go.Proofs.YtdgnhfhaaghoaaaGreatDoor

set_option linter.unusedVariables false
namespace Go.Proofs.YtdgnhfhaaghoaaaGreatDoor
open Go.RowKit

def canT (d : Int) (ends : List Bool) (ss : List I3) (i : Nat) : Bool := ss.any fun s => (s.1 == (i : Int)) && (s.2.1 == d) && ends.getD s.2.2.toNat false
def rowT (n : Nat) (d : Int) (ends : List Bool) (ss : List I3) : List Bool := (List.range n).map (canT d ends ss)

theorem rowT_len (n : Nat) (d : Int) (ends : List Bool) (ss : List I3) : (rowT n d ends ss).length = n := by simp [rowT]
theorem rowT_nil (n : Nat) (d : Int) (ends : List Bool) : rowT n d ends [] = List.replicate n false := by
  apply List.ext_getElem
  · simp [rowT]
  · intro i h1 h2
    simp [rowT, canT]
theorem rowT_at {n : Nat} {d : Int} {ends : List Bool} {ss : List I3} {i : Nat} (h : i < n) : (rowT n d ends ss)[i]? = some (canT d ends ss i) := by simp [rowT, h]
theorem rowT_set {n : Nat} {d : Int} {ends : List Bool} {ss : List I3} {s : I3} {i : Nat} (hs : s.1 = (i : Int)) (h : i < n) :
    (rowT n d ends ss).set i (canT d ends ss i || ((s.2.1 == d) && ends.getD s.2.2.toNat false)) = rowT n d ends (ss ++ [s]) := by
  apply List.ext_getElem
  · simp [rowT]
  · intro j h1 h2
    rw [List.getElem_set]
    simp [rowT_len] at h2
    by_cases e : i = j
    · subst e
      simp [rowT, canT, hs]
    · have : ¬ s.1 = (j : Int) := by omega
      simp [rowT, canT, e, this]
theorem rowT_step {n : Nat} {d : Int} {ends : List Bool} {ss : List I3} {j : Nat} {s : I3} {i : Nat} (hj : ss[j]? = some s) (hs : s.1 = (i : Int)) (h : i < n) :
    (rowT n d ends (ss.take j)).set i (canT d ends (ss.take j) i || ((s.2.1 == d) && ends.getD s.2.2.toNat false)) = rowT n d ends (ss.take (j + 1)) := by
  rw [rowT_set hs h]
  obtain ⟨hl, e⟩ := List.getElem?_eq_some_iff.1 hj
  rw [List.take_succ_eq_append_getElem hl, e]

theorem row_cell {wr : World} {B0 g n k : Nat} {e : TypeId} {row : List Bool} {x : Bool} (hown : wr.ownsRow B0 e 1 (.slice (some ⟨g, 0, none⟩) n n) n (bools row)) (hl : row.length = n) (hk : k < n) (hx : row[k]? = some x) (y : Bool) :
    wr.cell? ⟨g, k, none⟩ = some (.bool x) ∧ wr.frozen? ⟨g, k, none⟩ = false ∧ (wr.setCell ⟨g, k, none⟩ (.bool y)).ownsRow B0 e 1 (.slice (some ⟨g, 0, none⟩) n n) n (bools (row.set k y)) := by
  have hcell := hown.cellAt k (by omega)
  have hv : (bools row)[k]? = some (.bool x) := by simp [bools, hx]
  rw [hv] at hcell
  refine ⟨hcell, hown.frozenAt k, ?_⟩
  have hst := (hown.stored k (.bool y)).1
  have e2 : (bools row).set k (.bool y) = bools (row.set k y) := by simp [bools, List.map_set]
  rwa [e2] at hst

end Go.Proofs.YtdgnhfhaaghoaaaGreatDoor
