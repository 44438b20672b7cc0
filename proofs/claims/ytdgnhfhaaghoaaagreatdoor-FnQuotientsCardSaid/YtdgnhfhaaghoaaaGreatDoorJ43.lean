/- The reference's QuotientOf, walked. -/
import Derived.Test.YtdgnhfhaaghoaaaGreatDoorProg
import Derived.Test.YtdgnhfhaaghoaaaGreatDoorJ40
import Derived.Test.YtdgnhfhaaghoaaaGreatDoorJ21
set_option linter.unusedSimpArgs false
set_option linter.unusedVariables false
namespace Go.Proofs.YtdgnhfhaaghoaaaGreatDoor
open Go.RowKit

theorem owns_lowB {w w' : World} {b B g : Nat} {e : TypeId} {s n c m : Nat} {xs : List Value} (h : w.ownsRow b e s (.slice (some ⟨g, 0, none⟩) n c) m xs) (hg : g < B) (hb : Below B w w') : w'.ownsRow b e s (.slice (some ⟨g, 0, none⟩) n c) m xs := by
  refine ⟨h.1, ?_⟩
  rcases h.2 with hn | ⟨g1, cap, cur, e1, h1, h2, rest⟩
  · exact .inl hn
  · have e2 : g1 = g := by
      injection e1 with e1
      injection e1 with e1
      injection e1 with e1
      exact e1.symm
    subst e2
    exact .inr ⟨g1, cap, cur, e1, h1, (hb.block _ hg).trans h2, rest⟩
theorem TRows.keptB {w w' : World} {B g : Nat} {u : Value} {l : List (List Int)} (h : TRows w B u l) (hk : Kept (fun q => q = g) w w') (hg : g < B) : TRows w' B u l := by
  obtain ⟨vs, a, b, c⟩ := h
  exact ⟨vs, owns_kept a hk (fun q hq e => by have := (a.lt q hq).1; omega), fun i v xs x y => owns_kept (b i v xs x y) hk (fun q hq e => by have := ((b i v xs x y).lt q hq).1; omega), c⟩
def quoK (l : Lab) (k : Nat) : List (List Int) := ((List.range k).filter (isRep l)).map fun i => l.shows.getD i []
theorem quoK_len (l : Lab) (k : Nat) : (quoK l k).length = posR l k := by unfold quoK posR; rw [List.length_map]
theorem quoK_next (l : Lab) (k : Nat) : quoK l (k + 1) = if isRep l k then quoK l k ++ [l.shows.getD k []] else quoK l k := by
  unfold quoK
  rw [List.range_succ, List.filter_append, List.map_append]
  split
  · rename_i h; simp [h]
  · rename_i h; simp [h]
theorem quoK_all (l : Lab) : quoK l l.shows.length = (quoL l).shows := by
  unfold quoK quoL repsI
  rw [List.map_map]
  refine List.map_congr_left fun i _ => ?_
  simp
theorem posR_le (l : Lab) (k : Nat) : posR l k ≤ k := by
  unfold posR
  exact Nat.le_trans (List.length_filter_le _ _) (by simp)
theorem sortT_next (xs : List I3) (y : I3) : sortT (xs ++ [y]) = putT (sortT xs) y := by unfold sortT; rw [List.foldl_append]; rfl
/-- The places of the first k states. -/
def ToOk (l : Lab) (tl : List Int) (k : Nat) : Prop := tl.length = l.shows.length ∧ ∀ i, i < k → isRep l i = true → tl.getD i 0 = (posR l i : Int)
theorem ToOk.skip {l : Lab} {tl : List Int} {k : Nat} (h : ToOk l tl k) (hr : isRep l k = false) : ToOk l tl (k + 1) :=
  ⟨h.1, fun i hi hir => by
    rcases Nat.lt_succ_iff_lt_or_eq.1 hi with h' | h'
    · exact h.2 i h' hir
    · rw [h', hr] at hir; cases hir⟩
theorem ToOk.set {l : Lab} {tl : List Int} {k : Nat} (h : ToOk l tl k) (hk : k < l.shows.length) : ToOk l (tl.set k (posR l k : Int)) (k + 1) :=
  ⟨by rw [List.length_set]; exact h.1, fun i hi hir => by
    rcases Nat.lt_succ_iff_lt_or_eq.1 hi with h' | h'
    · rw [← h.2 i h' hir]
      simp [List.getD, List.getElem?_set, show k ≠ i by omega]
    · rw [h']
      simp [List.getD, List.getElem?_set, show k < tl.length by have := h.1; omega]⟩

theorem putT_pos (l : List I3) (x : I3) : 0 < (putT l x).length := List.length_pos_of_mem ((putT_mem l x x).2 (.inr rfl))
theorem put_own {W W' : World} {B g c : Nat} {l : List I3} {x : I3} {r : Value} (hr : (r = .slice (some ⟨g, 0, none⟩) l.length c ∧ putT l x = l) ∨ W'.ownsRow W.heap.size 103 3 r (putT l x).length ((putT l x).flatMap tri)) (hb : Below W.heap.size W W') (h : W.ownsRow B 103 3 (.slice (some ⟨g, 0, none⟩) l.length c) l.length (l.flatMap tri)) (hB : B ≤ W.heap.size) :
    W'.ownsRow B 103 3 r (putT l x).length ((putT l x).flatMap tri) := by
  rcases hr with ⟨rfl, e⟩ | hr
  · rw [e]; exact owns_below h hb (Nat.le_refl _)
  · exact owns_mono hr hB
theorem put_form {W : World} {B : Nat} {l : List I3} {x : I3} {v : Value} (h : W.ownsRow B 103 3 v (putT l x).length ((putT l x).flatMap tri)) : ∃ g c, v = .slice (some ⟨g, 0, none⟩) (putT l x).length c ∧ (putT l x).length ≤ c := by
  have hp := putT_pos l x
  rcases h.2 with ⟨_, e⟩ | ⟨g, c, cur, e, _, _, hc, _⟩
  · omega
  · exact ⟨g, c, e, hc⟩

set_option maxRecDepth 100000 in
set_option maxHeartbeats 16000000 in
theorem specQuotientOf_any (v : Value) (l : Lab) (w : World) (hs : SmallLab l) (hv : RLab w v l) :
    Calls Tryz.prog 37 #[v] w fun e w' => ∃ r, e = .returned (.tuple #[r, .bool (goodLab l)]) ∧ OwnLab w' (fun b => w.heap.size ≤ b ∧ b < w'.heap.size) r (quoR l) ∧ Below w.heap.size w w' := by
  have HV := Lib.hid (show ∀ W, Below w.heap.size w W → RLab W v l from fun W hb => hv.below hb)
  have HG := Lib.hid (fun W (hb : Below w.heap.size w W) => l11Good_any v l W hs (hv.below hb))
  have HI := Lib.hid (fun W (hg : goodLab l = true) (hb : Below w.heap.size w W) => l11Last_any v l W (hv.below hb) (fun W hW => l11Rounds_any v l W hs (by have := goodF_many hg; omega) (goodF_size hg).1 (goodF_size hg).2 (goodF_steps hg) (goodF_acts hg) hW))
  have HRG := Lib.hid (show goodLab l = true → quoR l = quoL l from fun hg => by unfold quoR; rw [hg]; rfl)
  have HRB := Lib.hid (show goodLab l = false → quoR l = ⟨[], []⟩ from fun hg => by unfold quoR; rw [hg]; rfl)
  obtain ⟨sv, tv, rfl, hsv, htv⟩ := hv
  obtain ⟨A, c0, vs, rfl, _, _, _, _⟩ := id hsv
  obtain ⟨D, d, rfl, _, _⟩ := id htv
  have HSV := Lib.hid (show ∀ W, Below w.heap.size w W → RSS W (.slice A l.shows.length c0) l.shows from fun W hb => hsv.below hb)
  have HTV := Lib.hid (show ∀ W, Below w.heap.size w W → RA3 W (.slice D l.steps.length d) l.steps from fun W hb => htv.below hb)
  obtain ⟨W0, hW0⟩ : ∃ W0, W0 = (w.alloc (.cells #[.slice A l.shows.length c0, .slice D l.steps.length d] 27)).alloc (.cells #[.slice none 0 0, .slice none 0 0] 27) := ⟨_, rfl⟩
  have hz0 : Below w.heap.size w W0 := by rw [hW0]; exact ((Below.refl _ _).alloc (Nat.le_refl _) _).alloc (by simp) _
  have hs0 : W0.heap.size = w.heap.size + 1 + 1 := by rw [hW0]; simp
  have bx0 : W0.heap[w.heap.size]? = some (.cells #[.slice A l.shows.length c0, .slice D l.steps.length d] 27) := by rw [hW0]; exact (heap_alloc_old _ _ (by simp)).trans (heap_alloc_new _ _)
  have br0 : W0.heap[w.heap.size + 1]? = some (.cells #[.slice none 0 0, .slice none 0 0] 27) := by rw [hW0]; exact heap_alloc2_new _ _ _
  have HX := Lib.hid (show ∀ W, Below W0.heap.size W0 W → (W.cell? ⟨w.heap.size, 0, none⟩ = some (.slice A l.shows.length c0) ∧ W.cell? ⟨w.heap.size, 1, none⟩ = some (.slice D l.steps.length d)) ∧ W.heap[w.heap.size + 1]? = some (.cells #[.slice none 0 0, .slice none 0 0] 27) from fun W hW => by
    have := (hW.block _ (by omega)).trans bx0
    exact ⟨⟨cell_of_row _ _ _ _ _ _ this, cell_of_row _ _ _ _ _ _ this⟩, (hW.block _ (by omega)).trans br0⟩)
  have HZ0 := Lib.hid hz0
  have hsz0 : w.heap.size ≤ W0.heap.size := by omega
  have hsz02 : w.heap.size + 1 < W0.heap.size := by omega
  have HFIN := Lib.hid (show ∀ W x y R, Below W0.heap.size W0 W → OwnLab W (fun b => W0.heap.size ≤ b ∧ b < W.heap.size) (.agg #[x, y]) R → OwnLab ((W.setCell ⟨w.heap.size + 1, 0, none⟩ x).setCell ⟨w.heap.size + 1, 1, none⟩ y) (fun b => w.heap.size ≤ b ∧ b < ((W.setCell ⟨w.heap.size + 1, 0, none⟩ x).setCell ⟨w.heap.size + 1, 1, none⟩ y).heap.size) (.agg #[x, y]) R ∧ Below w.heap.size w ((W.setCell ⟨w.heap.size + 1, 0, none⟩ x).setCell ⟨w.heap.size + 1, 1, none⟩ y) ∧ ((W.setCell ⟨w.heap.size + 1, 0, none⟩ x).setCell ⟨w.heap.size + 1, 1, none⟩ y).cell? ⟨w.heap.size + 1, 0, none⟩ = some x ∧ ((W.setCell ⟨w.heap.size + 1, 0, none⟩ x).setCell ⟨w.heap.size + 1, 1, none⟩ y).cell? ⟨w.heap.size + 1, 1, none⟩ = some y from fun W x y R hW ho => by
    have hk9 : Kept (fun q => q = w.heap.size + 1) W ((W.setCell ⟨w.heap.size + 1, 0, none⟩ x).setCell ⟨w.heap.size + 1, 1, none⟩ y) := Kept.setCell (S := fun q => q = w.heap.size + 1) (Kept.setCell (S := fun q => q = w.heap.size + 1) (Kept.refl _ W) (p := ⟨w.heap.size + 1, 0, none⟩) rfl x) (p := ⟨w.heap.size + 1, 1, none⟩) rfl y
    obtain ⟨k0, k1, _, _⟩ := box_two (heap_setCell_same _ (w.heap.size + 1) 1 _ _ y (heap_setCell_same _ (w.heap.size + 1) 0 _ _ x (HX.out W hW).2))
    exact ⟨(ho.kept hk9 (fun q h1 h2 => by omega)).wide (fun q hq => ⟨by omega, Nat.lt_of_lt_of_le hq.2 hk9.size⟩), ((HZ0.out.trans (hW.mono hsz0)).setCell (p := ⟨w.heap.size + 1, 0, none⟩) (by dsimp only; omega) x).setCell (p := ⟨w.heap.size + 1, 1, none⟩) (by dsimp only; omega) y, k0, k1⟩)
  have HW0 := Lib.hid hW0
  clear bx0 br0 hz0 hs0 hW0
  cases hg : goodLab l with
  | false =>
    rw [hg] at HG
    have HRX := Lib.hid (HRB.out hg)
    clear hg
    go_enter Tryz.func37, Tryz.ntmps37
    go_wp2_with fail
    rw [← HW0.out]
    go_wp2_with fail
    refine (HG.out W0 HZ0.out).mono ?_
    rintro e w1 ⟨rfl, hb1⟩
    obtain ⟨⟨x0, x1⟩, hr⟩ := HX.out w1 hb1
    obtain ⟨r0, r1, r2, r3⟩ := box_two hr
    have HB := Lib.hid hb1
    clear hb1 hr
    go_wp2_with fail
    obtain ⟨f1, f2, k0, k1⟩ := HFIN.out w1 (.slice none 0 0) (.slice none 0 0) ⟨[], []⟩ HB.out (ownLab_nil _ _)
    exact bodyPost_ret (v := .tuple #[.agg #[.slice none 0 0, .slice none 0 0], .bool false]) (by simp [results, Tryz.results37, go_sem, *]) rfl ⟨_, rfl, by rw [HRX.out]; exact f1, f2⟩
  | true =>
    rw [hg] at HG
    have HRX := Lib.hid (HRG.out hg)
    have HGD := Lib.hid hg
    have hn40 := (goodF_size hg).2
    have hst4 := goodF_many hg
    have hlen : (lastL l).length = l.shows.length := parts_len l _
    obtain ⟨i0, hi, hz0, hz1, hz2⟩ := info_parts info_int
    clear hg
    go_enter Tryz.func37, Tryz.ntmps37
    go_wp2_with fail
    rw [← HW0.out]
    go_wp2_with fail
    refine (HG.out W0 HZ0.out).mono ?_
    rintro e w1 ⟨rfl, hb1⟩
    obtain ⟨⟨x0, x1⟩, hr⟩ := HX.out w1 hb1
    have hs1 := hb1.size
    have HB := Lib.hid hb1
    clear hb1 hr
    go_wp2_with fail
    (with_reducible refine (HI.out w1 HGD.out (HZ0.out.trans (HB.out.mono hsz0))).mono ?_)
    rintro e w2 ⟨r2, rfl, hr2, hb2⟩
    rw [hlen] at hr2
    obtain ⟨A2, c2, rfl, hr2⟩ := owns_form hr2
    have HB2 := Lib.hid (HB.out.trans (hb2.mono hs1))
    have hs2 := HB2.out.size
    have HR2 := Lib.hid (show ∀ W, Below w2.heap.size w2 W → Cells W A2 (ints (lastL l)) from fun W hW => (Cells.of_owns hr2).below hW)
    clear hb2 hr2 x0 x1
    go_wp2_with (first | (at_make; refine wpList_make_full _ rfl _ _ 30 rfl w2.heap.size 3 i0 _ 1 Tryz.underlying30 hi hz0 hz1 _ _ _ _ l.shows.length rfl rfl rfl rfl (by rw [hz2]; omega) (by unfold maxLen; omega) (Nat.le_refl _) ?_; intro w3 hown hgrow))
    have hzz : (madeCells (Value.int .i64 0).cells (l.shows.length * 1)).toList = ints (List.replicate l.shows.length 0) := by
      show (madeCells #[_] _).toList = _
      rw [toList_madeCells_one, Nat.mul_one]
      simp [ints]
    rw [hzz] at hown
    have hb3 : Below w2.heap.size w2 w3 := (Below.refl _ _).grown hgrow (Nat.le_refl _) (by simp)
    obtain ⟨W5, hW5⟩ : ∃ W5, W5 = ((w3.alloc (.cells #[] 30)).alloc (.cells #[] 103)).alloc (.cells #[.slice (some ⟨w3.heap.size, 0, none⟩) 0 0, .slice (some ⟨w3.heap.size + 1, 0, none⟩) 0 0] 27) := ⟨_, rfl⟩
    rw [← hW5]
    have hb35 : Below w3.heap.size w3 W5 := by rw [hW5]; exact (((Below.refl _ _).alloc (Nat.le_refl _) _).alloc (by simp) _).alloc (by simp; omega) _
    have hs23 : w2.heap.size < w3.heap.size := (hown.lt _ rfl).2
    have HM0 := Lib.hid (show TRows W5 w3.heap.size (.slice (some ⟨w3.heap.size, 0, none⟩) 0 0) (quoK l 0) from ⟨[], by
      rw [hW5]
      exact ((made_row w3 30).alloc _).alloc _, fun i v xs h => by simp at h, fun i j v v' b _ h => by simp at h⟩)
    have HS0 := Lib.hid (show W5.ownsRow w3.heap.size 103 3 (.slice (some ⟨w3.heap.size + 1, 0, none⟩) 0 0) 0 [] from by
      rw [hW5]
      have h := World.ownsRow_made (e := 103) (size := 3) (w3.alloc (.cells #[] 30)) #[] 0 (Nat.le_refl _) (Nat.zero_le _) rfl
      rw [World.size_alloc] at h
      exact owns_mono (h.alloc _) (Nat.le_succ _))
    have HP0 := Lib.hid (show W5.heap[w3.heap.size + 1 + 1]? = some (.cells #[.slice (some ⟨w3.heap.size, 0, none⟩) 0 0, .slice (some ⟨w3.heap.size + 1, 0, none⟩) 0 0] 27) from by
      rw [hW5]
      have h := heap_alloc_new ((w3.alloc (.cells #[] 30)).alloc (.cells #[] 103)) (.cells #[.slice (some ⟨w3.heap.size, 0, none⟩) 0 0, .slice (some ⟨w3.heap.size + 1, 0, none⟩) 0 0] 27)
      rw [World.size_alloc, World.size_alloc] at h
      exact h)
    have HTO := Lib.hid (owns_lowB hown hs23 hb35)
    have HBA := Lib.hid (hb3.trans (hb35.mono (by omega)))
    have HOK := Lib.hid (show ToOk l (List.replicate l.shows.length 0) 0 from ⟨List.length_replicate, fun i hi => by omega⟩)
    clear hW5 hown hb3 hb35 hzz hgrow
    go_loopw [7] (fun i wr => ∃ (k : Nat) (u : Value) (tl : List Int), k ≤ l.shows.length ∧ i = .int .i64 k ∧ wr.heap[w3.heap.size + 1 + 1]? = some (.cells #[u, .slice (some ⟨w3.heap.size + 1, 0, none⟩) 0 0] 27) ∧ TRows wr w3.heap.size u (quoK l k) ∧ wr.ownsRow w3.heap.size 103 3 (.slice (some ⟨w3.heap.size + 1, 0, none⟩) 0 0) 0 [] ∧ wr.ownsRow w2.heap.size 3 1 (.slice (some ⟨w2.heap.size, 0, none⟩) l.shows.length l.shows.length) l.shows.length (ints tl) ∧ ToOk l tl k ∧ Below w2.heap.size w2 wr ∧ w3.heap.size ≤ wr.heap.size)
      (fun i _ => l.shows.length - (intOf i).toNat)
    case atStart => exact ⟨0, _, _, Nat.zero_le _, rfl, HP0.out, HM0.out, HS0.out, HTO.out, HOK.out, HBA.out, by have := (Array.getElem?_eq_some_iff.1 HP0.out).1; omega⟩
    case round =>
      clear HM0 HP0 HBA HS0 HTO HOK W5
      obtain ⟨k, u, tl, hk, rfl, hP, hT, hS, hto, hok, hbel, hsw⟩ := hrel
      have HPP := Lib.hid hP
      have HTT := Lib.hid hT
      have HSS := Lib.hid hS
      have HTO := Lib.hid hto
      have HOK := Lib.hid hok
      have HBE := Lib.hid hbel
      have HBR := Lib.hid (HB2.out.trans (hbel.mono hs2))
      have hsbr := HBR.out.size
      obtain ⟨AU, cU, rfl⟩ : ∃ AU cU, u = .slice AU (posR l k) cU := by
        obtain ⟨vs', a1, _⟩ := hT
        obtain ⟨AU, cU, e, _⟩ := owns_form a1
        rw [quoK_len] at e
        exact ⟨AU, cU, e⟩
      have hpl := posR_le l k
      have HQL := Lib.hid (quoK_len l k)
      by_cases hlt : k < l.shows.length
      · obtain ⟨b2, o2, rfl, hc2⟩ := (HR2.out wr hbel).int (k := k) (by rw [hlen]; omega)
        have ck := hc2 k (by rw [hlen]; omega)
        have hrd : isRep l k = ((lastL l).getD k 0 == (k : Int)) := rfl
        have hqn := quoK_next l k
        have r0 : (0 : Int) ≤ (k : Int) := by omega
        have r1 : (k : Int) < (l.shows.length : Int) := by omega
        cases hrep : isRep l k
        · rw [hrep, if_neg Bool.false_ne_true] at hqn
          have HQN := Lib.hid hqn
          have HOK2 := Lib.hid (hok.skip hrep)
          rw [hrep] at hrd
          replace hrd := hrd.symm
          clear hP hT hS hto hok hbel hc2 hqn hrep
          generalize (lastL l).getD k 0 = y at *
          go_wp2_with fail
          go_roundw
          case rel => exact ⟨k + 1, _, tl, by omega, by go_num, HPP.out, by rw [HQN.out]; exact HTT.out, HSS.out, HTO.out, HOK2.out, HBE.out, hsw⟩
          case measure => simp [intOf]; omega
        · rw [hrep, if_pos rfl] at hqn
          have HQN := Lib.hid hqn
          have HOK2 := Lib.hid (hok.set hlt)
          rw [hrep] at hrd
          replace hrd := hrd.symm
          obtain ⟨Aj, aj, sb, so, eA, hrow⟩ : ∃ Aj aj, ∃ (sb so : Nat) , A = some ⟨sb, so, none⟩ ∧ ∀ W, Below w.heap.size w W → W.cell? ⟨sb, so + k, none⟩ = some (.slice Aj (l.shows.getD k []).length aj) ∧ Cells W Aj (ints (l.shows.getD k [])) := by
            obtain ⟨sb, so, e, hr⟩ := rss_rows (X := fun q => l.shows.getD q default) (HSV.out w (Below.refl _ _)) (fun _ => rfl) (by omega)
            obtain ⟨Aj, aj, h⟩ := hr k hlt
            exact ⟨Aj, aj, sb, so, e, h⟩
          subst eA
          have HROW := Lib.hid hrow
          have hxl : (l.shows.getD k []).length ≤ 8 := (goodF_row HGD.out hlt).2.2
          have p0 := cell_of_row wr _ 0 _ _ _ hP
          have hg : wr.cell? ⟨w2.heap.size, k, none⟩ = some (.int .i64 (tl.getD k 0)) := by
            rw [hto.cellAt k (by omega)]
            exact getElem?_ints _ _ (by rw [hok.1]; omega)
          have hf := hto.frozenAt k
          have hst := hto.stored k (.int .i64 (posR l k : Int))
          obtain ⟨hst1, hst2⟩ := hst
          have hints : (ints tl).set k (.int .i64 (posR l k : Int)) = ints (tl.set k (posR l k : Int)) := by simp [ints, List.map_set]
          rw [hints] at hst1
          have hkp : Kept (fun q => q = w2.heap.size) wr (wr.setCell ⟨w2.heap.size, k, none⟩ (.int .i64 (posR l k : Int))) := (Kept.refl _ wr).setCell (S := fun q => q = w2.heap.size) (p := ⟨w2.heap.size, k, none⟩) rfl _
          obtain ⟨W6, hW6⟩ : ∃ W6, W6 = wr.setCell ⟨w2.heap.size, k, none⟩ (.int .i64 (posR l k : Int)) := ⟨_, rfl⟩
          rw [← hW6] at hst1 hkp
          have HTO6 := Lib.hid hst1
          have HP6 := Lib.hid ((hkp.block _ (Array.getElem?_eq_some_iff.1 hP).1 (by omega)).trans hP)
          have HT6 := Lib.hid (hT.keptB hkp hs23)
          have HS6 := Lib.hid (owns_kept hS hkp (fun q hq e => by have := (hS.lt q hq).1; omega))
          have HBE6 := Lib.hid (show Below w2.heap.size w2 W6 from by rw [hW6]; exact hbel.setCell (p := ⟨w2.heap.size, k, none⟩) (Nat.le_refl _) _)
          have HBR6 := Lib.hid (HB2.out.trans (HBE6.out.mono hs2))
          have hs6 : w3.heap.size ≤ W6.heap.size := Nat.le_trans hsw hkp.size
          have hs63 : W0.heap.size ≤ w3.heap.size := by omega
          have HW6 := Lib.hid hW6
          clear hP hT hS hto hok hbel hc2 hqn hrep hrow hst1 hst2 hints hkp hW6
          generalize l.shows.getD k [] = xj at *
          generalize (lastL l).getD k 0 = y at *
          generalize tl.getD k 0 = ty at *
          go_wp2_with fail
          rw [← HW6.out]
          refine wp_region_inv (by kernel_rfl) (fun L act W => ∃ (r : Value) (bs : Nat) (v : Value), act = ⟨#[Value.agg #[Value.slice (some ⟨sb, so, none⟩) l.shows.length c0, Value.slice D l.steps.length d], Value.pointer (some ⟨w.heap.size, 0, none⟩), Value.pointer (some ⟨w.heap.size + 1, 0, none⟩), Value.bool false, Value.slice (some ⟨b2, o2, none⟩) l.shows.length c2, Value.slice (some ⟨w2.heap.size, 0, none⟩) l.shows.length l.shows.length, Value.pointer (some ⟨w3.heap.size + 1 + 1, 0, none⟩), Value.int IntKind.i64 (k : Int), undef, undef, Value.agg #[Value.slice (some ⟨sb, so, none⟩) l.shows.length c0, Value.slice D l.steps.length d], Value.bool true, Value.bool false, undef, Value.agg #[Value.slice (some ⟨sb, so, none⟩) l.shows.length c0, Value.slice D l.steps.length d], Value.slice (some ⟨b2, o2, none⟩) l.shows.length c2, Value.slice (some ⟨b2, o2, none⟩) l.shows.length c2, Value.int IntKind.i64 (l.shows.length : Int), Value.slice (some ⟨w2.heap.size, 0, none⟩) l.shows.length l.shows.length, Value.slice (some ⟨w3.heap.size, 0, none⟩) 0 0, Value.slice (some ⟨w3.heap.size + 1, 0, none⟩) 0 0, Value.agg #[Value.slice (some ⟨w3.heap.size, 0, none⟩) 0 0, Value.slice (some ⟨w3.heap.size + 1, 0, none⟩) 0 0], Value.int IntKind.i64 (k : Int), Value.slice (some ⟨b2, o2, none⟩) l.shows.length c2, Value.int IntKind.i64 (l.shows.length : Int), Value.bool true, u26, u27, Value.slice (some ⟨b2, o2, none⟩) l.shows.length c2, Value.int IntKind.i64 (k : Int), Value.pointer (some ⟨b2, o2 + k, none⟩), Value.int IntKind.i64 y, Value.int IntKind.i64 (k : Int), Value.bool true, Value.slice (some ⟨w2.heap.size, 0, none⟩) l.shows.length l.shows.length, Value.int IntKind.i64 (k : Int), Value.pointer (some ⟨w3.heap.size + 1 + 1, 0, none⟩), Value.slice AU (posR l k) cU, Value.int IntKind.i64 ((posR l k : Nat) : Int), Value.pointer (some ⟨w2.heap.size, k, none⟩), bsel (L 0) (.pointer (some ⟨w3.heap.size + 1 + 1, 0, none⟩)) (u40), bsel (L 1) (.slice AU (posR l k) cU) (u41), bsel (L 2) (.pointer (some ⟨w.heap.size, 0, none⟩)) (u42), bsel (L 3) (.slice (some ⟨sb, so, none⟩) l.shows.length c0) (u43), bsel (L 4) (.int .i64 (k : Int)) (u44), bsel (L 5) (.pointer (some ⟨sb, so + k, none⟩)) (u45), bsel (L 6) (.slice Aj xj.length aj) (u46), bsel (L 7) (r) (u47), bsel (L 8) (.slice (some ⟨bs, 0, none⟩) 1 1) (u48), bsel (L 9) (v) (u49), bsel (L 10) (.pointer (some ⟨w3.heap.size + 1 + 1, 0, none⟩)) (u50), undef, undef, undef, undef, undef, undef, undef, undef, undef, undef, undef, undef, undef, undef, undef, undef, undef, undef, undef, undef, undef, undef, undef, undef, undef, undef, undef, undef, undef, undef, undef, undef, undef, undef, undef, undef, undef, undef, undef, undef, undef], []⟩ ∧ (L 9 = true → L 1 = true) ∧ SQ W6 w3.heap.size (w3.heap.size + 1 + 1) (.slice AU (posR l k) cU) (.slice (some ⟨w3.heap.size + 1, 0, none⟩) 0 0) 0 [] (quoK l k) xj (L 7) (L 8) (L 9) (L 11) r bs v W) ?h0 ?step ?fin
          case h0 => exact ⟨.bool false, 0, .bool false, rfl, fun h => absurd h Bool.false_ne_true, SQ.start HT6.out HS6.out HP6.out _ _ _⟩
          case step =>
            intro L act W q oo hJ hL ho hd K3 hK3
            obtain ⟨r, bs, v, rfl, hI0, hF⟩ := hJ
            match q, ho with
            | 0, ho =>
              simp only [List.getElem?_toArray, List.getElem?_cons_zero, List.getElem?_cons_succ, Option.some.injEq] at ho
              subst ho
              simp [Region.binds] at hd
              try simp only [hd, bsel_t]
              have HF := Lib.hid hF
              clear hF
              have HQI0 := Lib.hid hI0
              clear hI0
              go_simp
              exact hK3 _ _ ⟨r, bs, v, by first | (simp [upd, bsel]; done) | simp [upd, bsel, hd], by simpa [upd] using HQI0.out, HF.out⟩
            | 1, ho =>
              simp only [List.getElem?_toArray, List.getElem?_cons_zero, List.getElem?_cons_succ, Option.some.injEq] at ho
              subst ho
              simp [Region.binds] at hd
              have hz0 : L 9 = false := by
                cases e : L 9
                · rfl
                · exact absurd (hI0 e) (by simp [hL])
              have n11 : L 11 = false := by
                cases e : L 11
                · rfl
                · exact absurd (hF.o3 e) (by simp [hz0])
              have s0 := cell_of_row W _ 0 _ _ _ (hF.hP n11)
              try simp only [hd, bsel_t]
              have HF := Lib.hid hF
              clear hF
              have HQI0 := Lib.hid hI0
              clear hI0
              go_simp
              exact hK3 _ _ ⟨r, bs, v, by simp [upd, bsel, hd, hz0], by simp [upd], HF.out⟩
            | 2, ho =>
              simp only [List.getElem?_toArray, List.getElem?_cons_zero, List.getElem?_cons_succ, Option.some.injEq] at ho
              subst ho
              simp [Region.binds] at hd
              try simp only [hd, bsel_t]
              have HF := Lib.hid hF
              clear hF
              have HQI0 := Lib.hid hI0
              clear hI0
              go_simp
              exact hK3 _ _ ⟨r, bs, v, by first | (simp [upd, bsel]; done) | simp [upd, bsel, hd], by simpa [upd] using HQI0.out, HF.out⟩
            | 3, ho =>
              simp only [List.getElem?_toArray, List.getElem?_cons_zero, List.getElem?_cons_succ, Option.some.injEq] at ho
              subst ho
              simp [Region.binds] at hd
              obtain ⟨⟨x0, x1⟩, _⟩ := HX.out W (HBR6.out.trans (hF.z.mono hs63))
              try simp only [hd, bsel_t]
              have HF := Lib.hid hF
              clear hF
              have HQI0 := Lib.hid hI0
              clear hI0
              go_simp
              exact hK3 _ _ ⟨r, bs, v, by simp [upd, bsel, hd], by simpa [upd] using HQI0.out, HF.out⟩
            | 4, ho =>
              simp only [List.getElem?_toArray, List.getElem?_cons_zero, List.getElem?_cons_succ, Option.some.injEq] at ho
              subst ho
              simp [Region.binds] at hd
              try simp only [hd, bsel_t]
              have HF := Lib.hid hF
              clear hF
              have HQI0 := Lib.hid hI0
              clear hI0
              go_simp
              exact hK3 _ _ ⟨r, bs, v, by first | (simp [upd, bsel]; done) | simp [upd, bsel, hd], by simpa [upd] using HQI0.out, HF.out⟩
            | 5, ho =>
              simp only [List.getElem?_toArray, List.getElem?_cons_zero, List.getElem?_cons_succ, Option.some.injEq] at ho
              subst ho
              simp [Region.binds] at hd
              try simp only [hd, bsel_t]
              have HF := Lib.hid hF
              clear hF
              have HQI0 := Lib.hid hI0
              clear hI0
              go_simp
              exact hK3 _ _ ⟨r, bs, v, by simp [upd, bsel, hd], by simpa [upd] using HQI0.out, HF.out⟩
            | 6, ho =>
              simp only [List.getElem?_toArray, List.getElem?_cons_zero, List.getElem?_cons_succ, Option.some.injEq] at ho
              subst ho
              simp [Region.binds] at hd
              have hrow1 := (HROW.out W (HZ0.out.trans ((HBR6.out.trans (hF.z.mono hs63)).mono hsz0))).1
              try simp only [hd, bsel_t]
              have HF := Lib.hid hF
              clear hF
              have HQI0 := Lib.hid hI0
              clear hI0
              go_simp
              exact hK3 _ _ ⟨r, bs, v, by simp [upd, bsel, hd], by simpa [upd] using HQI0.out, HF.out⟩
            | 7, ho =>
              simp only [List.getElem?_toArray, List.getElem?_cons_zero, List.getElem?_cons_succ, Option.some.injEq] at ho
              subst ho
              simp [Region.binds] at hd
              rw [hL] at hF
              simp only [hd, bsel_t]
              have hrow2 := (HROW.out W (HZ0.out.trans ((HBR6.out.trans (hF.z.mono hs63)).mono hsz0))).2
              have HF := Lib.hid hF
              clear hF
              have HQI0 := Lib.hid hI0
              clear hI0
              go_simp
              go_at_call 91
              (with_reducible refine (l1Own_any Aj aj xj W (by omega) hrow2).mono ?_)
              rintro e W' ⟨r', rfl, hr, hb⟩
              have HF := Lib.hid (HF.out.called hs6 hb hr)
              clear hr hb
              go_simp
              exact hK3 _ _ ⟨r', bs, v, by simp [upd, bsel, hd], by simpa [upd] using HQI0.out, by simpa [upd, hd] using HF.out⟩
            | 8, ho =>
              simp only [List.getElem?_toArray, List.getElem?_cons_zero, List.getElem?_cons_succ, Option.some.injEq] at ho
              subst ho
              simp [Region.binds] at hd
              have d7 : L 7 = true := by simp [hd]
              rw [d7, hL] at hF
              obtain ⟨e9, _⟩ := hF.q8
              obtain ⟨Ar, cr, rfl, _⟩ := owns_form (hF.h7 rfl e9)
              simp only [hd, bsel_t]
              have HF := Lib.hid (hF.build hs6)
              clear hF e9
              have HQI0 := Lib.hid hI0
              clear hI0
              go_simp
              exact hK3 _ _ ⟨.slice Ar xj.length cr, W.heap.size, v, by simp [upd, bsel, hd], by simpa [upd] using HQI0.out, by simpa [upd, hd] using HF.out⟩
            | 9, ho =>
              simp only [List.getElem?_toArray, List.getElem?_cons_zero, List.getElem?_cons_succ, Option.some.injEq] at ho
              subst ho
              simp [Region.binds] at hd
              have d8 : L 8 = true := by simp [hd]
              rw [d8, hL] at hF
              have d7 : L 7 = true := hF.o1 rfl
              obtain ⟨Ar, cr, rfl, _⟩ := owns_form (hF.h7 d7 rfl)
              obtain ⟨vs, a1, a2, a3, a4⟩ := hF.hT rfl
              simp only [hd, bsel_t]
              have HF := Lib.hid hF
              clear hF
              refine step_appG el_ints rfl (.tmp 41) (.tmp 48) rfl w3.heap.size (.slice AU (posR l k) cU) _ vs (by rfl) a1 ⟨bs, 0, none⟩ 1 1 [.slice Ar xj.length cr] (by rfl) rfl (fun j' u' hj' => by match j', hj' with | 0, hj' => (simp at hj'; subst hj'; exact cell_of_row W bs 0 _ _ _ (HF.out.h8 rfl rfl))) (one1 rfl) (by rw [HQL.out]; unfold maxLen; omega) (by rw [HQL.out]; omega) (Nat.le_trans hs6 HF.out.z.size) ?_
              intro v' W' ho hg
              have HF := Lib.hid (HF.out.app hs6 a1 a2 a3 a4 ho hg)
              clear ho hg a1 a2 a3 a4
              have HQI0 := Lib.hid hI0
              clear hI0
              go_simp
              exact hK3 _ _ ⟨.slice Ar xj.length cr, bs, v', by simp [upd, bsel, hd], by simp [upd, hd], by simpa [upd, hd] using HF.out⟩
            | 10, ho =>
              simp only [List.getElem?_toArray, List.getElem?_cons_zero, List.getElem?_cons_succ, Option.some.injEq] at ho
              subst ho
              simp [Region.binds] at hd
              try simp only [hd, bsel_t]
              have HF := Lib.hid hF
              clear hF
              have HQI0 := Lib.hid hI0
              clear hI0
              go_simp
              exact hK3 _ _ ⟨r, bs, v, by first | (simp [upd, bsel]; done) | simp [upd, bsel, hd], by simpa [upd] using HQI0.out, HF.out⟩
            | 11, ho =>
              simp only [List.getElem?_toArray, List.getElem?_cons_zero, List.getElem?_cons_succ, Option.some.injEq] at ho
              subst ho
              simp [Region.binds] at hd
              have d9 : L 9 = true := by simp [hd]
              rw [d9, hL] at hF
              obtain ⟨Av, nv, cv, rfl⟩ : ∃ Av nv cv, v = .slice Av nv cv := by
                obtain ⟨vs, a1, _⟩ := hF.h9 rfl
                obtain ⟨Av, cv, e, _⟩ := owns_form a1
                exact ⟨Av, _, cv, e⟩
              have s0 := cell_of_row W _ 0 _ _ _ (hF.hP rfl)
              have s1 := frozen_of_row W _ 0 _ _ (hF.hP rfl)
              simp only [hd, bsel_t]
              have HF := Lib.hid (hF.store (by omega))
              clear hF
              have HQI0 := Lib.hid hI0
              clear hI0
              go_simp
              exact hK3 _ _ ⟨r, bs, .slice Av nv cv, by simp [upd, bsel, hd], by simpa [upd] using HQI0.out, by simpa [upd, hd] using HF.out⟩
            | q + 12, ho => simp at ho
          case fin =>
            intro L act W hJ hfin
            obtain ⟨r, bs, v, rfl, hI0, hF⟩ := hJ
            have l0 : L 0 = true := by
              cases e : L 0
              · have x := hfin 0 _ rfl e
                simp [Region.binds] at x
              · rfl
            have l1 : L 1 = true := by
              cases e : L 1
              · have x := hfin 1 _ rfl e
                simp [Region.binds, l0] at x
              · rfl
            have l2 : L 2 = true := by
              cases e : L 2
              · have x := hfin 2 _ rfl e
                simp [Region.binds, l0, l1] at x
              · rfl
            have l3 : L 3 = true := by
              cases e : L 3
              · have x := hfin 3 _ rfl e
                simp [Region.binds, l0, l1, l2] at x
              · rfl
            have l4 : L 4 = true := by
              cases e : L 4
              · have x := hfin 4 _ rfl e
                simp [Region.binds, l0, l1, l2, l3] at x
              · rfl
            have l5 : L 5 = true := by
              cases e : L 5
              · have x := hfin 5 _ rfl e
                simp [Region.binds, l0, l1, l2, l3, l4] at x
              · rfl
            have l6 : L 6 = true := by
              cases e : L 6
              · have x := hfin 6 _ rfl e
                simp [Region.binds, l0, l1, l2, l3, l4, l5] at x
              · rfl
            have l7 : L 7 = true := by
              cases e : L 7
              · have x := hfin 7 _ rfl e
                simp [Region.binds, l0, l1, l2, l3, l4, l5, l6] at x
              · rfl
            have l8 : L 8 = true := by
              cases e : L 8
              · have x := hfin 8 _ rfl e
                simp [Region.binds, l0, l1, l2, l3, l4, l5, l6, l7] at x
              · rfl
            have l9 : L 9 = true := by
              cases e : L 9
              · have x := hfin 9 _ rfl e
                simp [Region.binds, l0, l1, l2, l3, l4, l5, l6, l7, l8] at x
              · rfl
            have l10 : L 10 = true := by
              cases e : L 10
              · have x := hfin 10 _ rfl e
                simp [Region.binds, l0, l1, l2, l3, l4, l5, l6, l7, l8, l9] at x
              · rfl
            have l11 : L 11 = true := by
              cases e : L 11
              · have x := hfin 11 _ rfl e
                simp [Region.binds, l0, l1, l2, l3, l4, l5, l6, l7, l8, l9, l10] at x
              · rfl
            simp only [l0, l1, l2, l3, l4, l5, l6, l7, l8, l9, l10, l11, bsel_t]
            have hQ := hF.hQ l11
            have h9 := hF.h9 l9
            have HR := Lib.hid (show _ ∧ _ ∧ _ ∧ _ ∧ _ ∧ _ from ⟨hQ, h9, hF.s, owns_lowB HTO6.out hs23 hF.z, HBE6.out.trans (hF.z.mono (Nat.le_of_lt hs23)), Nat.le_trans hs6 hF.z.size⟩)
            clear hF hfin hI0 hQ h9 l0 l1 l2 l3 l4 l5 l6 l7 l8 l9 l10 l11
            go_wp2_with fail
            go_roundw
            case rel => exact ⟨k + 1, _, _, by omega, by go_num, HR.out.1, by rw [HQN.out]; exact HR.out.2.1, HR.out.2.2.1, HR.out.2.2.2.1, HOK2.out, HR.out.2.2.2.2.1, HR.out.2.2.2.2.2⟩
            case measure => simp [intOf]; omega
      · obtain rfl : k = l.shows.length := by omega
        obtain ⟨⟨x0, x1⟩, hr⟩ := HX.out wr HBR.out
        have HQ0 := Lib.hid (show wr.ownsRow w3.heap.size 103 3 (.slice (some ⟨w3.heap.size + 1, 0, none⟩) 0 0) (sortT (quoS l (l.steps.take 0))).length ((sortT (quoS l (l.steps.take 0))).flatMap tri) from hS)
        have HQL2 := Lib.hid (fun k => quoS_len l k)
        have HRF := Lib.hid (Below.refl w3.heap.size wr)
        clear hP hT hS hto hok hbel hr
        go_wp2_with fail
        generalize wr = wa at *
        obtain ⟨nU, hnU⟩ : ∃ nU, nU = posR l l.shows.length := ⟨_, rfl⟩
        rw [← hnU] at HPP HTT
        clear hnU
        go_loopw [8] (fun i wr => ∃ (k : Nat) (t : Value), k ≤ l.steps.length ∧ i = .int .i64 k ∧ wr.heap[w3.heap.size + 1 + 1]? = some (.cells #[.slice AU nU cU, t] 27) ∧ TRows wr w3.heap.size (.slice AU nU cU) (quoK l l.shows.length) ∧ wr.ownsRow w3.heap.size 103 3 t (sortT (quoS l (l.steps.take k))).length ((sortT (quoS l (l.steps.take k))).flatMap tri) ∧ (∃ g c, t = .slice (some ⟨g, 0, none⟩) (sortT (quoS l (l.steps.take k))).length c ∧ (sortT (quoS l (l.steps.take k))).length ≤ c) ∧ Below w3.heap.size wa wr ∧ Below w2.heap.size w2 wr)
          (fun i _ => l.steps.length - (intOf i).toNat)
        case atStart => exact ⟨0, _, Nat.zero_le _, rfl, HPP.out, HTT.out, HQ0.out, ⟨_, _, rfl, Nat.le_refl _⟩, HRF.out, HBE.out⟩
        case round =>
          clear HPP HTT HQ0 HBR x0 x1 HBE HRF
          obtain ⟨k, t, hk, rfl, hP, hT, hS, ⟨gt, ct, rfl, hct⟩, hba, hbel⟩ := hrel
          have hsa := hba.size
          have hsr := hbel.size
          have HPP := Lib.hid hP
          have HTT := Lib.hid hT
          have HSS := Lib.hid hS
          have HBA := Lib.hid hba
          have HBE := Lib.hid hbel
          have HBR := Lib.hid (HB2.out.trans (hbel.mono hs2))
          have hsbr := HBR.out.size
          obtain ⟨⟨x0, x1⟩, hr⟩ := HX.out wr HBR.out
          by_cases hlt : k < l.steps.length
          · obtain ⟨bD, oD, c', e, h0, h1, h2⟩ := (HTV.out wr (HZ0.out.trans (HBR.out.mono hsz0))).at_ (List.getElem?_eq_getElem hlt)
            cases e
            obtain ⟨un, zn, hu, hz2, hun, hzn⟩ := goodF_steps HGD.out _ (List.getElem_mem hlt)
            have hqt := quoS_take hlt
            rw [hu, Int.toNat_natCast] at hqt
            have hqx : quoX l l.steps[k] = ((posR l un : Int), (l.steps[k]).2.1, (posR l ((lastL l).getD zn 0).toNat : Int)) := by unfold quoX; rw [hu, hz2, Int.toNat_natCast, Int.toNat_natCast]
            rw [hu] at h0
            rw [hz2] at h2
            obtain ⟨kk, hkk, hkkn, hkr⟩ := last_rep l hzn
            rw [hkk, Int.toNat_natCast] at hqx
            obtain ⟨Wx, hWx⟩ : ∃ Wx, Wx = wr.alloc (.cells #[.int .i64 (un : Int), .int .i64 l.steps[k].2.1, .int .i64 (zn : Int)] 103) := ⟨_, rfl⟩
            have hb4 : Below wr.heap.size wr Wx := by rw [hWx]; exact (Below.refl _ _).alloc (Nat.le_refl _) _
            have bx4 : Wx.heap[wr.heap.size]? = some (.cells #[.int .i64 (un : Int), .int .i64 l.steps[k].2.1, .int .i64 (zn : Int)] 103) := by rw [hWx]; exact heap_alloc_new _ _
            have hlt4 : wr.heap.size < Wx.heap.size := by rw [hWx]; simp
            have HBX0 := Lib.hid (show ∀ V, Below Wx.heap.size Wx V → V.cell? ⟨wr.heap.size, 0, none⟩ = some (.int .i64 (un : Int)) ∧ V.cell? ⟨wr.heap.size, 1, none⟩ = some (.int .i64 l.steps[k].2.1) ∧ V.cell? ⟨wr.heap.size, 2, none⟩ = some (.int .i64 (zn : Int)) from fun V hV => by
              have := (hV.block _ hlt4).trans bx4
              exact ⟨cell_of_row _ _ _ _ _ _ this, cell_of_row _ _ _ _ _ _ this, cell_of_row _ _ _ _ _ _ this⟩)
            have HBWX := Lib.hid hb4
            obtain ⟨g0, g1, g2⟩ := HBX0.out Wx (Below.refl _ _)
            have hrd : isRep l un = ((lastL l).getD un 0 == (un : Int)) := rfl
            obtain ⟨b2, o2, eA2, _⟩ := (HR2.out w2 (Below.refl _ _)).int (k := zn) (by rw [hlen]; omega)
            have HPL := Lib.hid (show ∀ V, Below w2.heap.size w2 V → ∀ j, j < l.shows.length → V.cell? ⟨b2, o2 + j, none⟩ = some (.int .i64 ((lastL l).getD j 0)) from fun V hV j hj => by
              obtain ⟨b2', o2', e, hc⟩ := (HR2.out V hV).int (k := j) (by rw [hlen]; omega)
              rw [eA2] at e
              cases e
              exact hc j (by rw [hlen]; omega))
            have HPZ := Lib.hid (show ∀ V, Below w2.heap.size w2 V → V.cell? ⟨b2, o2 + zn, none⟩ = some (.int .i64 (kk : Int)) from fun V hV => by rw [← hkk]; exact HPL.out V hV zn hzn)
            subst eA2
            have hpl := HPL.out Wx (hbel.trans (hb4.mono hsr)) un hun
            have r0 : (0 : Int) ≤ (k : Int) := by omega
            have r1 : (k : Int) < (l.steps.length : Int) := by omega
            have q0 : (0 : Int) ≤ (zn : Int) := by omega
            have q1 : (zn : Int) < (l.shows.length : Int) := by omega
            have q2 : (0 : Int) ≤ (un : Int) := by omega
            have q3 : (un : Int) < (l.shows.length : Int) := by omega
            have q4 : (0 : Int) ≤ (kk : Int) := by omega
            have q5 : (kk : Int) < (l.shows.length : Int) := by omega
            have hql := HQL2.out k
            have hsl : (sortT (quoS l (l.steps.take k))).length ≤ (quoS l (l.steps.take k)).length := sortT_len _
            rw [hWx] at g0 g1 g2 hpl
            have HWX := Lib.hid hWx
            clear hP hT hS hbel hba hb4 bx4 hlt4 hWx hr hu hz2
            cases hrep : isRep l un
            · rw [hrep, if_neg Bool.false_ne_true] at hqt
              have HN := Lib.hid hqt
              rw [hrep] at hrd
              replace hrd := hrd.symm
              clear hqt hqx hrep
              generalize l.steps[k] = x at *
              generalize (lastL l).getD un 0 = y at *
              go_wp2_with fail
              go_quiet (fail)
              rw [← HWX.out]
              have HBW := Lib.hid (below_drewN' HBWX.out nq)
              have HP4 := Lib.hid ((HBW.out.block _ (Array.getElem?_eq_some_iff.1 HPP.out).1).trans HPP.out)
              have HT4 := Lib.hid (HTT.out.below HBW.out (Nat.le_refl _))
              have HS4 := Lib.hid (owns_below HSS.out HBW.out (Nat.le_refl _))
              have HBA4 := Lib.hid (HBA.out.trans (HBW.out.mono (by omega)))
              have HBE4 := Lib.hid (HBE.out.trans (HBW.out.mono hsr))
              go_wp2_with fail
              go_roundw
              case rel => exact ⟨k + 1, _, by omega, by go_num, HP4.out, HT4.out, by rw [HN.out]; exact HS4.out, by rw [HN.out]; exact ⟨gt, ct, rfl, hct⟩, HBA4.out, HBE4.out⟩
              case measure => simp [intOf]; omega
            · rw [hrep, if_pos rfl, hqx] at hqt
              have HN := Lib.hid hqt
              rw [hrep] at hrd
              replace hrd := hrd.symm
              have HPUV := Lib.hid (HOK.out.2 un hun hrep)
              have HPKV := Lib.hid (HOK.out.2 kk hkkn hkr)
              have htl := HOK.out.1
              clear hqt hqx hrep
              generalize l.steps[k] = x at *
              generalize hqs : quoS l (l.steps.take k) = qs at *
              generalize posR l un = pu at *
              generalize posR l kk = pk at *
              generalize (lastL l).getD un 0 = y at *
              clear hqs
              go_wp2_with fail
              go_quiet (fail)
              rw [← HWX.out]
              obtain ⟨W4, hW4⟩ : ∃ W4, W4 = Wx.drewN nq := ⟨_, rfl⟩
              have hbw : Below wr.heap.size wr W4 := by rw [hW4]; exact below_drewN' HBWX.out nq
              have hbx4 : Below Wx.heap.size Wx W4 := by rw [hW4]; exact below_drewN' (Below.refl _ _) nq
              rw [← hW4]
              have HBX := Lib.hid (show ∀ V, Below W4.heap.size W4 V → V.cell? ⟨wr.heap.size, 0, none⟩ = some (.int .i64 (un : Int)) ∧ V.cell? ⟨wr.heap.size, 1, none⟩ = some (.int .i64 x.2.1) ∧ V.cell? ⟨wr.heap.size, 2, none⟩ = some (.int .i64 (zn : Int)) from fun V hV => HBX0.out V (hbx4.trans (hV.mono hbx4.size)))
              have HP4 := Lib.hid ((hbw.block _ (Array.getElem?_eq_some_iff.1 HPP.out).1).trans HPP.out)
              have HT4 := Lib.hid (HTT.out.below hbw (Nat.le_refl _))
              have HS4 := Lib.hid (owns_below HSS.out hbw (Nat.le_refl _))
              have HBA4 := Lib.hid (HBA.out.trans (hbw.mono (by omega)))
              have HBE4 := Lib.hid (HBE.out.trans (hbw.mono hsr))
              have hs4 : w3.heap.size ≤ W4.heap.size := by have := HBA4.out.size; omega
              have hto4 := owns_lowB HTO.out hs23 HBA4.out
              have HPT := Lib.hid (show ∀ V, Below w3.heap.size W4 V → ∀ j, j < l.shows.length → V.cell? ⟨w2.heap.size, j, none⟩ = some (.int .i64 (tl.getD j 0)) from fun V hV j hj => by
                rw [(owns_lowB hto4 hs23 hV).cellAt j (by omega)]
                exact getElem?_ints _ _ (by omega))
              have HPU := Lib.hid (show ∀ V, Below w3.heap.size W4 V → V.cell? ⟨w2.heap.size, un, none⟩ = some (.int .i64 (pu : Int)) from fun V hV => by rw [← HPUV.out]; exact HPT.out V hV un hun)
              have HPK := Lib.hid (show ∀ V, Below w3.heap.size W4 V → V.cell? ⟨w2.heap.size, kk, none⟩ = some (.int .i64 (pk : Int)) from fun V hV => by rw [← HPKV.out]; exact HPT.out V hV kk hkkn)
              have HPUTC := Lib.hid (fun V (h : World.ownsRow V w3.heap.size 103 3 (.slice (some ⟨gt, 0, none⟩) (sortT qs).length ct) (sortT qs).length ((sortT qs).flatMap tri)) => l10Put_any gt ct (sortT qs) ((pu : Int), x.2.1, (pk : Int)) V (by omega) hct (sortT_sorted qs) (Cells.of_owns h))
              clear hW4 hbw hbx4 hto4 g0 g1 g2 hpl
              go_wp2_with fail
              refine wp_region_inv (by kernel_rfl) (fun L act W => ∃ (v : Value), act = ⟨#[Value.agg #[Value.slice A l.shows.length c0, Value.slice (some ⟨bD, oD, none⟩) l.steps.length d], Value.pointer (some ⟨w.heap.size, 0, none⟩), Value.pointer (some ⟨w.heap.size + 1, 0, none⟩), Value.bool false, Value.slice (some ⟨b2, o2, none⟩) l.shows.length c2, Value.slice (some ⟨w2.heap.size, 0, none⟩) l.shows.length l.shows.length, Value.pointer (some ⟨w3.heap.size + 1 + 1, 0, none⟩), Value.int IntKind.i64 (l.shows.length : Int), Value.int IntKind.i64 (k : Int), Value.pointer (some ⟨wr.heap.size, 0, none⟩), Value.agg #[Value.slice A l.shows.length c0, Value.slice (some ⟨bD, oD, none⟩) l.steps.length d], Value.bool true, Value.bool false, undef, Value.agg #[Value.slice A l.shows.length c0, Value.slice (some ⟨bD, oD, none⟩) l.steps.length d], Value.slice (some ⟨b2, o2, none⟩) l.shows.length c2, Value.slice (some ⟨b2, o2, none⟩) l.shows.length c2, Value.int IntKind.i64 (l.shows.length : Int), Value.slice (some ⟨w2.heap.size, 0, none⟩) l.shows.length l.shows.length, Value.slice (some ⟨w3.heap.size, 0, none⟩) 0 0, Value.slice (some ⟨w3.heap.size + 1, 0, none⟩) 0 0, Value.agg #[Value.slice (some ⟨w3.heap.size, 0, none⟩) 0 0, Value.slice (some ⟨w3.heap.size + 1, 0, none⟩) 0 0], Value.int IntKind.i64 (l.shows.length : Int), Value.slice (some ⟨b2, o2, none⟩) l.shows.length c2, Value.int IntKind.i64 (l.shows.length : Int), Value.bool false, u26, u27, u28, u29, u30, u31, u32, u33, u34, u35, u36, u37, u38, u39, u40, u41, u42, u43, u44, u45, u46, u47, u48, u49, u50, Value.int IntKind.i64 (k : Int), Value.pointer (some ⟨w.heap.size, 1, none⟩), Value.slice (some ⟨bD, oD, none⟩) l.steps.length d, Value.int IntKind.i64 (l.steps.length : Int), Value.bool true, u56, u57, Value.pointer (some ⟨w.heap.size, 1, none⟩), Value.slice (some ⟨bD, oD, none⟩) l.steps.length d, Value.int IntKind.i64 (k : Int), Value.pointer (some ⟨bD, oD + k * 3, none⟩), Value.agg #[Value.int IntKind.i64 (un : Int), Value.int IntKind.i64 x.snd.fst, Value.int IntKind.i64 (zn : Int)], Value.slice (some ⟨b2, o2, none⟩) l.shows.length c2, Value.pointer (some ⟨wr.heap.size, 0, none⟩), Value.int IntKind.i64 (un : Int), Value.pointer (some ⟨b2, o2 + un, none⟩), Value.int IntKind.i64 y, Value.pointer (some ⟨wr.heap.size, 0, none⟩), Value.int IntKind.i64 (un : Int), Value.bool true, bsel (L 0) (.pointer (some ⟨w3.heap.size + 1 + 1, 1, none⟩)) (u71), bsel (L 1) (.slice (some ⟨gt, 0, none⟩) (sortT qs).length ct) (u72), bsel (L 2) (.slice (some ⟨w2.heap.size, 0, none⟩) l.shows.length l.shows.length) (u73), bsel (L 3) (.pointer (some ⟨wr.heap.size, 0, none⟩)) (u74), bsel (L 4) (.int .i64 (un : Int)) (u75), bsel (L 5) (.pointer (some ⟨w2.heap.size, un, none⟩)) (u76), bsel (L 6) (.int .i64 (pu : Int)) (u77), bsel (L 7) (.pointer (some ⟨wr.heap.size, 1, none⟩)) (u78), bsel (L 8) (.int .i64 x.2.1) (u79), bsel (L 9) (.slice (some ⟨w2.heap.size, 0, none⟩) l.shows.length l.shows.length) (u80), bsel (L 10) (.slice (some ⟨b2, o2, none⟩) l.shows.length c2) (u81), bsel (L 11) (.pointer (some ⟨wr.heap.size, 2, none⟩)) (u82), bsel (L 12) (.int .i64 (zn : Int)) (u83), bsel (L 13) (.pointer (some ⟨b2, o2 + zn, none⟩)) (u84), bsel (L 14) (.int .i64 (kk : Int)) (u85), bsel (L 15) (.pointer (some ⟨w2.heap.size, kk, none⟩)) (u86), bsel (L 16) (.int .i64 (pk : Int)) (u87), bsel (L 17) (.agg #[.int .i64 (pu : Int), .int .i64 x.2.1, .int .i64 (pk : Int)]) (u88), bsel (L 18) (v) (u89), bsel (L 19) (.pointer (some ⟨w3.heap.size + 1 + 1, 1, none⟩)) (u90), undef], []⟩ ∧ (L 18 = true → L 1 = true) ∧ (L 18 = true → L 17 = true) ∧ (L 17 = true → L 6 = true) ∧ (L 6 = true → L 5 = true) ∧ (L 5 = true → L 4 = true) ∧ (L 17 = true → L 8 = true) ∧ (L 17 = true → L 16 = true) ∧ (L 16 = true → L 15 = true) ∧ (L 15 = true → L 14 = true) ∧ (L 14 = true → L 13 = true) ∧ (L 13 = true → L 12 = true) ∧ PQ3 W4 w3.heap.size (w3.heap.size + 1 + 1) (.slice AU nU cU) (.slice (some ⟨gt, 0, none⟩) (sortT qs).length ct) (quoK l l.shows.length) (sortT qs) (putT (sortT qs) ((pu : Int), x.2.1, (pk : Int))) (L 18) (L 20) v W) ?h0 ?step ?fin
              case h0 => exact ⟨.bool false, rfl, fun h => absurd h Bool.false_ne_true, fun h => absurd h Bool.false_ne_true, fun h => absurd h Bool.false_ne_true, fun h => absurd h Bool.false_ne_true, fun h => absurd h Bool.false_ne_true, fun h => absurd h Bool.false_ne_true, fun h => absurd h Bool.false_ne_true, fun h => absurd h Bool.false_ne_true, fun h => absurd h Bool.false_ne_true, fun h => absurd h Bool.false_ne_true, fun h => absurd h Bool.false_ne_true, PQ3.start HT4.out HS4.out HP4.out _⟩
              case step =>
                intro L act W q oo hJ hL ho hd K3 hK3
                obtain ⟨v, rfl, hI0, hI1, hI2, hI3, hI4, hI5, hI6, hI7, hI8, hI9, hI10, hF⟩ := hJ
                match q, ho with
                | 0, ho =>
                  simp only [List.getElem?_toArray, List.getElem?_cons_zero, List.getElem?_cons_succ, Option.some.injEq] at ho
                  subst ho
                  simp [Region.binds] at hd
                  try simp only [hd, bsel_t]
                  have HF := Lib.hid hF
                  clear hF
                  have HQI0 := Lib.hid hI0
                  clear hI0
                  have HQI1 := Lib.hid hI1
                  clear hI1
                  have HQI2 := Lib.hid hI2
                  clear hI2
                  have HQI3 := Lib.hid hI3
                  clear hI3
                  have HQI4 := Lib.hid hI4
                  clear hI4
                  have HQI5 := Lib.hid hI5
                  clear hI5
                  have HQI6 := Lib.hid hI6
                  clear hI6
                  have HQI7 := Lib.hid hI7
                  clear hI7
                  have HQI8 := Lib.hid hI8
                  clear hI8
                  have HQI9 := Lib.hid hI9
                  clear hI9
                  have HQI10 := Lib.hid hI10
                  clear hI10
                  go_simp
                  exact hK3 _ _ ⟨v, by first | (simp [upd, bsel]; done) | simp [upd, bsel, hd], by simpa [upd] using HQI0.out, by simpa [upd] using HQI1.out, by simpa [upd] using HQI2.out, by simpa [upd] using HQI3.out, by simpa [upd] using HQI4.out, by simpa [upd] using HQI5.out, by simpa [upd] using HQI6.out, by simpa [upd] using HQI7.out, by simpa [upd] using HQI8.out, by simpa [upd] using HQI9.out, by simpa [upd] using HQI10.out, HF.out⟩
                | 1, ho =>
                  simp only [List.getElem?_toArray, List.getElem?_cons_zero, List.getElem?_cons_succ, Option.some.injEq] at ho
                  subst ho
                  simp [Region.binds] at hd
                  have hz0 : L 18 = false := by
                    cases e : L 18
                    · rfl
                    · exact absurd (hI0 e) (by simp [hL])
                  have s0 := cell_of_row W _ 1 _ _ _ (hF.hP (Bool.eq_false_iff.2 fun e => absurd (hF.o3 e) (by simp [hz0])))
                  try simp only [hd, bsel_t]
                  have HF := Lib.hid hF
                  clear hF
                  have HQI0 := Lib.hid hI0
                  clear hI0
                  have HQI1 := Lib.hid hI1
                  clear hI1
                  have HQI2 := Lib.hid hI2
                  clear hI2
                  have HQI3 := Lib.hid hI3
                  clear hI3
                  have HQI4 := Lib.hid hI4
                  clear hI4
                  have HQI5 := Lib.hid hI5
                  clear hI5
                  have HQI6 := Lib.hid hI6
                  clear hI6
                  have HQI7 := Lib.hid hI7
                  clear hI7
                  have HQI8 := Lib.hid hI8
                  clear hI8
                  have HQI9 := Lib.hid hI9
                  clear hI9
                  have HQI10 := Lib.hid hI10
                  clear hI10
                  go_simp
                  exact hK3 _ _ ⟨v, by simp [upd, bsel, hd, hz0], by simp [upd], by simpa [upd] using HQI1.out, by simpa [upd] using HQI2.out, by simpa [upd] using HQI3.out, by simpa [upd] using HQI4.out, by simpa [upd] using HQI5.out, by simpa [upd] using HQI6.out, by simpa [upd] using HQI7.out, by simpa [upd] using HQI8.out, by simpa [upd] using HQI9.out, by simpa [upd] using HQI10.out, HF.out⟩
                | 2, ho =>
                  simp only [List.getElem?_toArray, List.getElem?_cons_zero, List.getElem?_cons_succ, Option.some.injEq] at ho
                  subst ho
                  simp [Region.binds] at hd
                  try simp only [hd, bsel_t]
                  have HF := Lib.hid hF
                  clear hF
                  have HQI0 := Lib.hid hI0
                  clear hI0
                  have HQI1 := Lib.hid hI1
                  clear hI1
                  have HQI2 := Lib.hid hI2
                  clear hI2
                  have HQI3 := Lib.hid hI3
                  clear hI3
                  have HQI4 := Lib.hid hI4
                  clear hI4
                  have HQI5 := Lib.hid hI5
                  clear hI5
                  have HQI6 := Lib.hid hI6
                  clear hI6
                  have HQI7 := Lib.hid hI7
                  clear hI7
                  have HQI8 := Lib.hid hI8
                  clear hI8
                  have HQI9 := Lib.hid hI9
                  clear hI9
                  have HQI10 := Lib.hid hI10
                  clear hI10
                  go_simp
                  exact hK3 _ _ ⟨v, by first | (simp [upd, bsel]; done) | simp [upd, bsel, hd], by simpa [upd] using HQI0.out, by simpa [upd] using HQI1.out, by simpa [upd] using HQI2.out, by simpa [upd] using HQI3.out, by simpa [upd] using HQI4.out, by simpa [upd] using HQI5.out, by simpa [upd] using HQI6.out, by simpa [upd] using HQI7.out, by simpa [upd] using HQI8.out, by simpa [upd] using HQI9.out, by simpa [upd] using HQI10.out, HF.out⟩
                | 3, ho =>
                  simp only [List.getElem?_toArray, List.getElem?_cons_zero, List.getElem?_cons_succ, Option.some.injEq] at ho
                  subst ho
                  simp [Region.binds] at hd
                  try simp only [hd, bsel_t]
                  have HF := Lib.hid hF
                  clear hF
                  have HQI0 := Lib.hid hI0
                  clear hI0
                  have HQI1 := Lib.hid hI1
                  clear hI1
                  have HQI2 := Lib.hid hI2
                  clear hI2
                  have HQI3 := Lib.hid hI3
                  clear hI3
                  have HQI4 := Lib.hid hI4
                  clear hI4
                  have HQI5 := Lib.hid hI5
                  clear hI5
                  have HQI6 := Lib.hid hI6
                  clear hI6
                  have HQI7 := Lib.hid hI7
                  clear hI7
                  have HQI8 := Lib.hid hI8
                  clear hI8
                  have HQI9 := Lib.hid hI9
                  clear hI9
                  have HQI10 := Lib.hid hI10
                  clear hI10
                  go_simp
                  exact hK3 _ _ ⟨v, by first | (simp [upd, bsel]; done) | simp [upd, bsel, hd], by simpa [upd] using HQI0.out, by simpa [upd] using HQI1.out, by simpa [upd] using HQI2.out, by simpa [upd] using HQI3.out, by simpa [upd] using HQI4.out, by simpa [upd] using HQI5.out, by simpa [upd] using HQI6.out, by simpa [upd] using HQI7.out, by simpa [upd] using HQI8.out, by simpa [upd] using HQI9.out, by simpa [upd] using HQI10.out, HF.out⟩
                | 4, ho =>
                  simp only [List.getElem?_toArray, List.getElem?_cons_zero, List.getElem?_cons_succ, Option.some.injEq] at ho
                  subst ho
                  simp [Region.binds] at hd
                  have hz4 : L 5 = false := by
                    cases e : L 5
                    · rfl
                    · exact absurd (hI4 e) (by simp [hL])
                  obtain ⟨g0, g1, g2⟩ := HBX.out W (hF.zz (Bool.eq_false_iff.2 fun e => absurd (hI4 (hI3 (hI2 (hI1 e)))) (by simp [hL])))
                  try simp only [hd, bsel_t]
                  have HF := Lib.hid hF
                  clear hF
                  have HQI0 := Lib.hid hI0
                  clear hI0
                  have HQI1 := Lib.hid hI1
                  clear hI1
                  have HQI2 := Lib.hid hI2
                  clear hI2
                  have HQI3 := Lib.hid hI3
                  clear hI3
                  have HQI4 := Lib.hid hI4
                  clear hI4
                  have HQI5 := Lib.hid hI5
                  clear hI5
                  have HQI6 := Lib.hid hI6
                  clear hI6
                  have HQI7 := Lib.hid hI7
                  clear hI7
                  have HQI8 := Lib.hid hI8
                  clear hI8
                  have HQI9 := Lib.hid hI9
                  clear hI9
                  have HQI10 := Lib.hid hI10
                  clear hI10
                  go_simp
                  exact hK3 _ _ ⟨v, by simp [upd, bsel, hd, hz4], by simpa [upd] using HQI0.out, by simpa [upd] using HQI1.out, by simpa [upd] using HQI2.out, by simpa [upd] using HQI3.out, by simp [upd], by simpa [upd] using HQI5.out, by simpa [upd] using HQI6.out, by simpa [upd] using HQI7.out, by simpa [upd] using HQI8.out, by simpa [upd] using HQI9.out, by simpa [upd] using HQI10.out, HF.out⟩
                | 5, ho =>
                  simp only [List.getElem?_toArray, List.getElem?_cons_zero, List.getElem?_cons_succ, Option.some.injEq] at ho
                  subst ho
                  simp [Region.binds] at hd
                  have hz3 : L 6 = false := by
                    cases e : L 6
                    · rfl
                    · exact absurd (hI3 e) (by simp [hL])
                  try simp only [hd, bsel_t]
                  have HF := Lib.hid hF
                  clear hF
                  have HQI0 := Lib.hid hI0
                  clear hI0
                  have HQI1 := Lib.hid hI1
                  clear hI1
                  have HQI2 := Lib.hid hI2
                  clear hI2
                  have HQI3 := Lib.hid hI3
                  clear hI3
                  have HQI4 := Lib.hid hI4
                  clear hI4
                  have HQI5 := Lib.hid hI5
                  clear hI5
                  have HQI6 := Lib.hid hI6
                  clear hI6
                  have HQI7 := Lib.hid hI7
                  clear hI7
                  have HQI8 := Lib.hid hI8
                  clear hI8
                  have HQI9 := Lib.hid hI9
                  clear hI9
                  have HQI10 := Lib.hid hI10
                  clear hI10
                  go_simp
                  exact hK3 _ _ ⟨v, by simp [upd, bsel, hd, hz3], by simpa [upd] using HQI0.out, by simpa [upd] using HQI1.out, by simpa [upd] using HQI2.out, by simp [upd], by simp [upd, hd], by simpa [upd] using HQI5.out, by simpa [upd] using HQI6.out, by simpa [upd] using HQI7.out, by simpa [upd] using HQI8.out, by simpa [upd] using HQI9.out, by simpa [upd] using HQI10.out, HF.out⟩
                | 6, ho =>
                  simp only [List.getElem?_toArray, List.getElem?_cons_zero, List.getElem?_cons_succ, Option.some.injEq] at ho
                  subst ho
                  simp [Region.binds] at hd
                  have hz2 : L 17 = false := by
                    cases e : L 17
                    · rfl
                    · exact absurd (hI2 e) (by simp [hL])
                  have hpu := HPU.out W hF.z
                  try simp only [hd, bsel_t]
                  have HF := Lib.hid hF
                  clear hF
                  have HQI0 := Lib.hid hI0
                  clear hI0
                  have HQI1 := Lib.hid hI1
                  clear hI1
                  have HQI2 := Lib.hid hI2
                  clear hI2
                  have HQI3 := Lib.hid hI3
                  clear hI3
                  have HQI4 := Lib.hid hI4
                  clear hI4
                  have HQI5 := Lib.hid hI5
                  clear hI5
                  have HQI6 := Lib.hid hI6
                  clear hI6
                  have HQI7 := Lib.hid hI7
                  clear hI7
                  have HQI8 := Lib.hid hI8
                  clear hI8
                  have HQI9 := Lib.hid hI9
                  clear hI9
                  have HQI10 := Lib.hid hI10
                  clear hI10
                  go_simp
                  exact hK3 _ _ ⟨v, by simp [upd, bsel, hd, hz2], by simpa [upd] using HQI0.out, by simpa [upd] using HQI1.out, by simp [upd], by simp [upd, hd], by simpa [upd] using HQI4.out, by simpa [upd] using HQI5.out, by simpa [upd] using HQI6.out, by simpa [upd] using HQI7.out, by simpa [upd] using HQI8.out, by simpa [upd] using HQI9.out, by simpa [upd] using HQI10.out, HF.out⟩
                | 7, ho =>
                  simp only [List.getElem?_toArray, List.getElem?_cons_zero, List.getElem?_cons_succ, Option.some.injEq] at ho
                  subst ho
                  simp [Region.binds] at hd
                  try simp only [hd, bsel_t]
                  have HF := Lib.hid hF
                  clear hF
                  have HQI0 := Lib.hid hI0
                  clear hI0
                  have HQI1 := Lib.hid hI1
                  clear hI1
                  have HQI2 := Lib.hid hI2
                  clear hI2
                  have HQI3 := Lib.hid hI3
                  clear hI3
                  have HQI4 := Lib.hid hI4
                  clear hI4
                  have HQI5 := Lib.hid hI5
                  clear hI5
                  have HQI6 := Lib.hid hI6
                  clear hI6
                  have HQI7 := Lib.hid hI7
                  clear hI7
                  have HQI8 := Lib.hid hI8
                  clear hI8
                  have HQI9 := Lib.hid hI9
                  clear hI9
                  have HQI10 := Lib.hid hI10
                  clear hI10
                  go_simp
                  exact hK3 _ _ ⟨v, by first | (simp [upd, bsel]; done) | simp [upd, bsel, hd], by simpa [upd] using HQI0.out, by simpa [upd] using HQI1.out, by simpa [upd] using HQI2.out, by simpa [upd] using HQI3.out, by simpa [upd] using HQI4.out, by simpa [upd] using HQI5.out, by simpa [upd] using HQI6.out, by simpa [upd] using HQI7.out, by simpa [upd] using HQI8.out, by simpa [upd] using HQI9.out, by simpa [upd] using HQI10.out, HF.out⟩
                | 8, ho =>
                  simp only [List.getElem?_toArray, List.getElem?_cons_zero, List.getElem?_cons_succ, Option.some.injEq] at ho
                  subst ho
                  simp [Region.binds] at hd
                  have hz5 : L 17 = false := by
                    cases e : L 17
                    · rfl
                    · exact absurd (hI5 e) (by simp [hL])
                  obtain ⟨g0, g1, g2⟩ := HBX.out W (hF.zz (Bool.eq_false_iff.2 fun e => absurd (hI5 (hI1 e)) (by simp [hL])))
                  try simp only [hd, bsel_t]
                  have HF := Lib.hid hF
                  clear hF
                  have HQI0 := Lib.hid hI0
                  clear hI0
                  have HQI1 := Lib.hid hI1
                  clear hI1
                  have HQI2 := Lib.hid hI2
                  clear hI2
                  have HQI3 := Lib.hid hI3
                  clear hI3
                  have HQI4 := Lib.hid hI4
                  clear hI4
                  have HQI5 := Lib.hid hI5
                  clear hI5
                  have HQI6 := Lib.hid hI6
                  clear hI6
                  have HQI7 := Lib.hid hI7
                  clear hI7
                  have HQI8 := Lib.hid hI8
                  clear hI8
                  have HQI9 := Lib.hid hI9
                  clear hI9
                  have HQI10 := Lib.hid hI10
                  clear hI10
                  go_simp
                  exact hK3 _ _ ⟨v, by simp [upd, bsel, hd, hz5], by simpa [upd] using HQI0.out, by simpa [upd] using HQI1.out, by simpa [upd] using HQI2.out, by simpa [upd] using HQI3.out, by simpa [upd] using HQI4.out, by simp [upd], by simpa [upd] using HQI6.out, by simpa [upd] using HQI7.out, by simpa [upd] using HQI8.out, by simpa [upd] using HQI9.out, by simpa [upd] using HQI10.out, HF.out⟩
                | 9, ho =>
                  simp only [List.getElem?_toArray, List.getElem?_cons_zero, List.getElem?_cons_succ, Option.some.injEq] at ho
                  subst ho
                  simp [Region.binds] at hd
                  try simp only [hd, bsel_t]
                  have HF := Lib.hid hF
                  clear hF
                  have HQI0 := Lib.hid hI0
                  clear hI0
                  have HQI1 := Lib.hid hI1
                  clear hI1
                  have HQI2 := Lib.hid hI2
                  clear hI2
                  have HQI3 := Lib.hid hI3
                  clear hI3
                  have HQI4 := Lib.hid hI4
                  clear hI4
                  have HQI5 := Lib.hid hI5
                  clear hI5
                  have HQI6 := Lib.hid hI6
                  clear hI6
                  have HQI7 := Lib.hid hI7
                  clear hI7
                  have HQI8 := Lib.hid hI8
                  clear hI8
                  have HQI9 := Lib.hid hI9
                  clear hI9
                  have HQI10 := Lib.hid hI10
                  clear hI10
                  go_simp
                  exact hK3 _ _ ⟨v, by first | (simp [upd, bsel]; done) | simp [upd, bsel, hd], by simpa [upd] using HQI0.out, by simpa [upd] using HQI1.out, by simpa [upd] using HQI2.out, by simpa [upd] using HQI3.out, by simpa [upd] using HQI4.out, by simpa [upd] using HQI5.out, by simpa [upd] using HQI6.out, by simpa [upd] using HQI7.out, by simpa [upd] using HQI8.out, by simpa [upd] using HQI9.out, by simpa [upd] using HQI10.out, HF.out⟩
                | 10, ho =>
                  simp only [List.getElem?_toArray, List.getElem?_cons_zero, List.getElem?_cons_succ, Option.some.injEq] at ho
                  subst ho
                  simp [Region.binds] at hd
                  try simp only [hd, bsel_t]
                  have HF := Lib.hid hF
                  clear hF
                  have HQI0 := Lib.hid hI0
                  clear hI0
                  have HQI1 := Lib.hid hI1
                  clear hI1
                  have HQI2 := Lib.hid hI2
                  clear hI2
                  have HQI3 := Lib.hid hI3
                  clear hI3
                  have HQI4 := Lib.hid hI4
                  clear hI4
                  have HQI5 := Lib.hid hI5
                  clear hI5
                  have HQI6 := Lib.hid hI6
                  clear hI6
                  have HQI7 := Lib.hid hI7
                  clear hI7
                  have HQI8 := Lib.hid hI8
                  clear hI8
                  have HQI9 := Lib.hid hI9
                  clear hI9
                  have HQI10 := Lib.hid hI10
                  clear hI10
                  go_simp
                  exact hK3 _ _ ⟨v, by first | (simp [upd, bsel]; done) | simp [upd, bsel, hd], by simpa [upd] using HQI0.out, by simpa [upd] using HQI1.out, by simpa [upd] using HQI2.out, by simpa [upd] using HQI3.out, by simpa [upd] using HQI4.out, by simpa [upd] using HQI5.out, by simpa [upd] using HQI6.out, by simpa [upd] using HQI7.out, by simpa [upd] using HQI8.out, by simpa [upd] using HQI9.out, by simpa [upd] using HQI10.out, HF.out⟩
                | 11, ho =>
                  simp only [List.getElem?_toArray, List.getElem?_cons_zero, List.getElem?_cons_succ, Option.some.injEq] at ho
                  subst ho
                  simp [Region.binds] at hd
                  try simp only [hd, bsel_t]
                  have HF := Lib.hid hF
                  clear hF
                  have HQI0 := Lib.hid hI0
                  clear hI0
                  have HQI1 := Lib.hid hI1
                  clear hI1
                  have HQI2 := Lib.hid hI2
                  clear hI2
                  have HQI3 := Lib.hid hI3
                  clear hI3
                  have HQI4 := Lib.hid hI4
                  clear hI4
                  have HQI5 := Lib.hid hI5
                  clear hI5
                  have HQI6 := Lib.hid hI6
                  clear hI6
                  have HQI7 := Lib.hid hI7
                  clear hI7
                  have HQI8 := Lib.hid hI8
                  clear hI8
                  have HQI9 := Lib.hid hI9
                  clear hI9
                  have HQI10 := Lib.hid hI10
                  clear hI10
                  go_simp
                  exact hK3 _ _ ⟨v, by first | (simp [upd, bsel]; done) | simp [upd, bsel, hd], by simpa [upd] using HQI0.out, by simpa [upd] using HQI1.out, by simpa [upd] using HQI2.out, by simpa [upd] using HQI3.out, by simpa [upd] using HQI4.out, by simpa [upd] using HQI5.out, by simpa [upd] using HQI6.out, by simpa [upd] using HQI7.out, by simpa [upd] using HQI8.out, by simpa [upd] using HQI9.out, by simpa [upd] using HQI10.out, HF.out⟩
                | 12, ho =>
                  simp only [List.getElem?_toArray, List.getElem?_cons_zero, List.getElem?_cons_succ, Option.some.injEq] at ho
                  subst ho
                  simp [Region.binds] at hd
                  have hz10 : L 13 = false := by
                    cases e : L 13
                    · rfl
                    · exact absurd (hI10 e) (by simp [hL])
                  obtain ⟨g0, g1, g2⟩ := HBX.out W (hF.zz (Bool.eq_false_iff.2 fun e => absurd (hI10 (hI9 (hI8 (hI7 (hI6 (hI1 e)))))) (by simp [hL])))
                  try simp only [hd, bsel_t]
                  have HF := Lib.hid hF
                  clear hF
                  have HQI0 := Lib.hid hI0
                  clear hI0
                  have HQI1 := Lib.hid hI1
                  clear hI1
                  have HQI2 := Lib.hid hI2
                  clear hI2
                  have HQI3 := Lib.hid hI3
                  clear hI3
                  have HQI4 := Lib.hid hI4
                  clear hI4
                  have HQI5 := Lib.hid hI5
                  clear hI5
                  have HQI6 := Lib.hid hI6
                  clear hI6
                  have HQI7 := Lib.hid hI7
                  clear hI7
                  have HQI8 := Lib.hid hI8
                  clear hI8
                  have HQI9 := Lib.hid hI9
                  clear hI9
                  have HQI10 := Lib.hid hI10
                  clear hI10
                  go_simp
                  exact hK3 _ _ ⟨v, by simp [upd, bsel, hd, hz10], by simpa [upd] using HQI0.out, by simpa [upd] using HQI1.out, by simpa [upd] using HQI2.out, by simpa [upd] using HQI3.out, by simpa [upd] using HQI4.out, by simpa [upd] using HQI5.out, by simpa [upd] using HQI6.out, by simpa [upd] using HQI7.out, by simpa [upd] using HQI8.out, by simpa [upd] using HQI9.out, by simp [upd], HF.out⟩
                | 13, ho =>
                  simp only [List.getElem?_toArray, List.getElem?_cons_zero, List.getElem?_cons_succ, Option.some.injEq] at ho
                  subst ho
                  simp [Region.binds] at hd
                  have hz9 : L 14 = false := by
                    cases e : L 14
                    · rfl
                    · exact absurd (hI9 e) (by simp [hL])
                  try simp only [hd, bsel_t]
                  have HF := Lib.hid hF
                  clear hF
                  have HQI0 := Lib.hid hI0
                  clear hI0
                  have HQI1 := Lib.hid hI1
                  clear hI1
                  have HQI2 := Lib.hid hI2
                  clear hI2
                  have HQI3 := Lib.hid hI3
                  clear hI3
                  have HQI4 := Lib.hid hI4
                  clear hI4
                  have HQI5 := Lib.hid hI5
                  clear hI5
                  have HQI6 := Lib.hid hI6
                  clear hI6
                  have HQI7 := Lib.hid hI7
                  clear hI7
                  have HQI8 := Lib.hid hI8
                  clear hI8
                  have HQI9 := Lib.hid hI9
                  clear hI9
                  have HQI10 := Lib.hid hI10
                  clear hI10
                  go_simp
                  exact hK3 _ _ ⟨v, by simp [upd, bsel, hd, hz9], by simpa [upd] using HQI0.out, by simpa [upd] using HQI1.out, by simpa [upd] using HQI2.out, by simpa [upd] using HQI3.out, by simpa [upd] using HQI4.out, by simpa [upd] using HQI5.out, by simpa [upd] using HQI6.out, by simpa [upd] using HQI7.out, by simpa [upd] using HQI8.out, by simp [upd], by simp [upd, hd], HF.out⟩
                | 14, ho =>
                  simp only [List.getElem?_toArray, List.getElem?_cons_zero, List.getElem?_cons_succ, Option.some.injEq] at ho
                  subst ho
                  simp [Region.binds] at hd
                  have hz8 : L 15 = false := by
                    cases e : L 15
                    · rfl
                    · exact absurd (hI8 e) (by simp [hL])
                  have hpz := HPZ.out W (HBE4.out.trans (hF.z.mono (Nat.le_of_lt hs23)))
                  try simp only [hd, bsel_t]
                  have HF := Lib.hid hF
                  clear hF
                  have HQI0 := Lib.hid hI0
                  clear hI0
                  have HQI1 := Lib.hid hI1
                  clear hI1
                  have HQI2 := Lib.hid hI2
                  clear hI2
                  have HQI3 := Lib.hid hI3
                  clear hI3
                  have HQI4 := Lib.hid hI4
                  clear hI4
                  have HQI5 := Lib.hid hI5
                  clear hI5
                  have HQI6 := Lib.hid hI6
                  clear hI6
                  have HQI7 := Lib.hid hI7
                  clear hI7
                  have HQI8 := Lib.hid hI8
                  clear hI8
                  have HQI9 := Lib.hid hI9
                  clear hI9
                  have HQI10 := Lib.hid hI10
                  clear hI10
                  go_simp
                  exact hK3 _ _ ⟨v, by simp [upd, bsel, hd, hz8], by simpa [upd] using HQI0.out, by simpa [upd] using HQI1.out, by simpa [upd] using HQI2.out, by simpa [upd] using HQI3.out, by simpa [upd] using HQI4.out, by simpa [upd] using HQI5.out, by simpa [upd] using HQI6.out, by simpa [upd] using HQI7.out, by simp [upd], by simp [upd, hd], by simpa [upd] using HQI10.out, HF.out⟩
                | 15, ho =>
                  simp only [List.getElem?_toArray, List.getElem?_cons_zero, List.getElem?_cons_succ, Option.some.injEq] at ho
                  subst ho
                  simp [Region.binds] at hd
                  have hz7 : L 16 = false := by
                    cases e : L 16
                    · rfl
                    · exact absurd (hI7 e) (by simp [hL])
                  try simp only [hd, bsel_t]
                  have HF := Lib.hid hF
                  clear hF
                  have HQI0 := Lib.hid hI0
                  clear hI0
                  have HQI1 := Lib.hid hI1
                  clear hI1
                  have HQI2 := Lib.hid hI2
                  clear hI2
                  have HQI3 := Lib.hid hI3
                  clear hI3
                  have HQI4 := Lib.hid hI4
                  clear hI4
                  have HQI5 := Lib.hid hI5
                  clear hI5
                  have HQI6 := Lib.hid hI6
                  clear hI6
                  have HQI7 := Lib.hid hI7
                  clear hI7
                  have HQI8 := Lib.hid hI8
                  clear hI8
                  have HQI9 := Lib.hid hI9
                  clear hI9
                  have HQI10 := Lib.hid hI10
                  clear hI10
                  go_simp
                  exact hK3 _ _ ⟨v, by simp [upd, bsel, hd, hz7], by simpa [upd] using HQI0.out, by simpa [upd] using HQI1.out, by simpa [upd] using HQI2.out, by simpa [upd] using HQI3.out, by simpa [upd] using HQI4.out, by simpa [upd] using HQI5.out, by simpa [upd] using HQI6.out, by simp [upd], by simp [upd, hd], by simpa [upd] using HQI9.out, by simpa [upd] using HQI10.out, HF.out⟩
                | 16, ho =>
                  simp only [List.getElem?_toArray, List.getElem?_cons_zero, List.getElem?_cons_succ, Option.some.injEq] at ho
                  subst ho
                  simp [Region.binds] at hd
                  have hz6 : L 17 = false := by
                    cases e : L 17
                    · rfl
                    · exact absurd (hI6 e) (by simp [hL])
                  have hpk := HPK.out W hF.z
                  try simp only [hd, bsel_t]
                  have HF := Lib.hid hF
                  clear hF
                  have HQI0 := Lib.hid hI0
                  clear hI0
                  have HQI1 := Lib.hid hI1
                  clear hI1
                  have HQI2 := Lib.hid hI2
                  clear hI2
                  have HQI3 := Lib.hid hI3
                  clear hI3
                  have HQI4 := Lib.hid hI4
                  clear hI4
                  have HQI5 := Lib.hid hI5
                  clear hI5
                  have HQI6 := Lib.hid hI6
                  clear hI6
                  have HQI7 := Lib.hid hI7
                  clear hI7
                  have HQI8 := Lib.hid hI8
                  clear hI8
                  have HQI9 := Lib.hid hI9
                  clear hI9
                  have HQI10 := Lib.hid hI10
                  clear hI10
                  go_simp
                  exact hK3 _ _ ⟨v, by simp [upd, bsel, hd, hz6], by simpa [upd] using HQI0.out, by simpa [upd] using HQI1.out, by simpa [upd] using HQI2.out, by simpa [upd] using HQI3.out, by simpa [upd] using HQI4.out, by simpa [upd] using HQI5.out, by simp [upd], by simp [upd, hd], by simpa [upd] using HQI8.out, by simpa [upd] using HQI9.out, by simpa [upd] using HQI10.out, HF.out⟩
                | 17, ho =>
                  simp only [List.getElem?_toArray, List.getElem?_cons_zero, List.getElem?_cons_succ, Option.some.injEq] at ho
                  subst ho
                  simp [Region.binds] at hd
                  have hz1 : L 18 = false := by
                    cases e : L 18
                    · rfl
                    · exact absurd (hI1 e) (by simp [hL])
                  try simp only [hd, bsel_t]
                  have HF := Lib.hid hF
                  clear hF
                  have HQI0 := Lib.hid hI0
                  clear hI0
                  have HQI1 := Lib.hid hI1
                  clear hI1
                  have HQI2 := Lib.hid hI2
                  clear hI2
                  have HQI3 := Lib.hid hI3
                  clear hI3
                  have HQI4 := Lib.hid hI4
                  clear hI4
                  have HQI5 := Lib.hid hI5
                  clear hI5
                  have HQI6 := Lib.hid hI6
                  clear hI6
                  have HQI7 := Lib.hid hI7
                  clear hI7
                  have HQI8 := Lib.hid hI8
                  clear hI8
                  have HQI9 := Lib.hid hI9
                  clear hI9
                  have HQI10 := Lib.hid hI10
                  clear hI10
                  go_simp
                  exact hK3 _ _ ⟨v, by simp [upd, bsel, hd, hz1], by simpa [upd] using HQI0.out, by simp [upd], by simp [upd, hd], by simpa [upd] using HQI3.out, by simpa [upd] using HQI4.out, by simp [upd, hd], by simp [upd, hd], by simpa [upd] using HQI7.out, by simpa [upd] using HQI8.out, by simpa [upd] using HQI9.out, by simpa [upd] using HQI10.out, HF.out⟩
                | 18, ho =>
                  simp only [List.getElem?_toArray, List.getElem?_cons_zero, List.getElem?_cons_succ, Option.some.injEq] at ho
                  subst ho
                  simp [Region.binds] at hd
                  rw [hL] at hF
                  have hl10 := HPUTC.out W (hF.h1 rfl)
                  have HL10 := Lib.hid hl10
                  clear hl10
                  simp only [hd, bsel_t]
                  have HF := Lib.hid hF
                  clear hF
                  have HQI0 := Lib.hid hI0
                  clear hI0
                  have HQI1 := Lib.hid hI1
                  clear hI1
                  have HQI2 := Lib.hid hI2
                  clear hI2
                  have HQI3 := Lib.hid hI3
                  clear hI3
                  have HQI4 := Lib.hid hI4
                  clear hI4
                  have HQI5 := Lib.hid hI5
                  clear hI5
                  have HQI6 := Lib.hid hI6
                  clear hI6
                  have HQI7 := Lib.hid hI7
                  clear hI7
                  have HQI8 := Lib.hid hI8
                  clear hI8
                  have HQI9 := Lib.hid hI9
                  clear hI9
                  have HQI10 := Lib.hid hI10
                  clear hI10
                  go_simp
                  go_at_call 92
                  (with_reducible refine HL10.out.mono ?_)
                  rintro e W' ⟨r', rfl, hr, hb⟩
                  have hrr := put_own hr hb (HF.out.h1 rfl) (Nat.le_trans hs4 HF.out.z.size)
                  have HF := Lib.hid (HF.out.called hs4 hb hrr)
                  clear hr hb hrr HL10
                  go_simp
                  exact hK3 _ _ ⟨r', by simp [upd, bsel, hd], by simp [upd, hd], by simp [upd, hd], by simpa [upd] using HQI2.out, by simpa [upd] using HQI3.out, by simpa [upd] using HQI4.out, by simpa [upd] using HQI5.out, by simpa [upd] using HQI6.out, by simpa [upd] using HQI7.out, by simpa [upd] using HQI8.out, by simpa [upd] using HQI9.out, by simpa [upd] using HQI10.out, by simpa [upd, hd] using HF.out⟩
                | 19, ho =>
                  simp only [List.getElem?_toArray, List.getElem?_cons_zero, List.getElem?_cons_succ, Option.some.injEq] at ho
                  subst ho
                  simp [Region.binds] at hd
                  try simp only [hd, bsel_t]
                  have HF := Lib.hid hF
                  clear hF
                  have HQI0 := Lib.hid hI0
                  clear hI0
                  have HQI1 := Lib.hid hI1
                  clear hI1
                  have HQI2 := Lib.hid hI2
                  clear hI2
                  have HQI3 := Lib.hid hI3
                  clear hI3
                  have HQI4 := Lib.hid hI4
                  clear hI4
                  have HQI5 := Lib.hid hI5
                  clear hI5
                  have HQI6 := Lib.hid hI6
                  clear hI6
                  have HQI7 := Lib.hid hI7
                  clear hI7
                  have HQI8 := Lib.hid hI8
                  clear hI8
                  have HQI9 := Lib.hid hI9
                  clear hI9
                  have HQI10 := Lib.hid hI10
                  clear hI10
                  go_simp
                  exact hK3 _ _ ⟨v, by first | (simp [upd, bsel]; done) | simp [upd, bsel, hd], by simpa [upd] using HQI0.out, by simpa [upd] using HQI1.out, by simpa [upd] using HQI2.out, by simpa [upd] using HQI3.out, by simpa [upd] using HQI4.out, by simpa [upd] using HQI5.out, by simpa [upd] using HQI6.out, by simpa [upd] using HQI7.out, by simpa [upd] using HQI8.out, by simpa [upd] using HQI9.out, by simpa [upd] using HQI10.out, HF.out⟩
                | 20, ho =>
                  simp only [List.getElem?_toArray, List.getElem?_cons_zero, List.getElem?_cons_succ, Option.some.injEq] at ho
                  subst ho
                  simp [Region.binds] at hd
                  have d18 : L 18 = true := by simp [hd]
                  rw [d18, hL] at hF
                  obtain ⟨Av, nv, cv, rfl⟩ : ∃ Av nv cv, v = .slice Av nv cv := by
                    obtain ⟨Av, cv, e, _⟩ := owns_form (hF.h18 rfl)
                    exact ⟨Av, _, cv, e⟩
                  have s0 := cell_of_row W _ 1 _ _ _ (hF.hP rfl)
                  have s1 := frozen_of_row W _ 1 _ _ (hF.hP rfl)
                  simp only [hd, bsel_t]
                  have HF := Lib.hid (hF.store (by omega))
                  clear hF
                  have HQI0 := Lib.hid hI0
                  clear hI0
                  have HQI1 := Lib.hid hI1
                  clear hI1
                  have HQI2 := Lib.hid hI2
                  clear hI2
                  have HQI3 := Lib.hid hI3
                  clear hI3
                  have HQI4 := Lib.hid hI4
                  clear hI4
                  have HQI5 := Lib.hid hI5
                  clear hI5
                  have HQI6 := Lib.hid hI6
                  clear hI6
                  have HQI7 := Lib.hid hI7
                  clear hI7
                  have HQI8 := Lib.hid hI8
                  clear hI8
                  have HQI9 := Lib.hid hI9
                  clear hI9
                  have HQI10 := Lib.hid hI10
                  clear hI10
                  go_simp
                  exact hK3 _ _ ⟨.slice Av nv cv, by simp [upd, bsel, hd], by simpa [upd] using HQI0.out, by simpa [upd] using HQI1.out, by simpa [upd] using HQI2.out, by simpa [upd] using HQI3.out, by simpa [upd] using HQI4.out, by simpa [upd] using HQI5.out, by simpa [upd] using HQI6.out, by simpa [upd] using HQI7.out, by simpa [upd] using HQI8.out, by simpa [upd] using HQI9.out, by simpa [upd] using HQI10.out, by simpa [upd, hd] using HF.out⟩
                | q + 21, ho => simp at ho
              case fin =>
                intro L act W hJ hfin
                obtain ⟨v, rfl, hI0, hI1, hI2, hI3, hI4, hI5, hI6, hI7, hI8, hI9, hI10, hF⟩ := hJ
                have l0 : L 0 = true := by
                  cases e : L 0
                  · have x := hfin 0 _ rfl e
                    simp [Region.binds] at x
                  · rfl
                have l1 : L 1 = true := by
                  cases e : L 1
                  · have x := hfin 1 _ rfl e
                    simp [Region.binds, l0] at x
                  · rfl
                have l2 : L 2 = true := by
                  cases e : L 2
                  · have x := hfin 2 _ rfl e
                    simp [Region.binds, l0, l1] at x
                  · rfl
                have l3 : L 3 = true := by
                  cases e : L 3
                  · have x := hfin 3 _ rfl e
                    simp [Region.binds, l0, l1, l2] at x
                  · rfl
                have l4 : L 4 = true := by
                  cases e : L 4
                  · have x := hfin 4 _ rfl e
                    simp [Region.binds, l0, l1, l2, l3] at x
                  · rfl
                have l5 : L 5 = true := by
                  cases e : L 5
                  · have x := hfin 5 _ rfl e
                    simp [Region.binds, l0, l1, l2, l3, l4] at x
                  · rfl
                have l6 : L 6 = true := by
                  cases e : L 6
                  · have x := hfin 6 _ rfl e
                    simp [Region.binds, l0, l1, l2, l3, l4, l5] at x
                  · rfl
                have l7 : L 7 = true := by
                  cases e : L 7
                  · have x := hfin 7 _ rfl e
                    simp [Region.binds, l0, l1, l2, l3, l4, l5, l6] at x
                  · rfl
                have l8 : L 8 = true := by
                  cases e : L 8
                  · have x := hfin 8 _ rfl e
                    simp [Region.binds, l0, l1, l2, l3, l4, l5, l6, l7] at x
                  · rfl
                have l9 : L 9 = true := by
                  cases e : L 9
                  · have x := hfin 9 _ rfl e
                    simp [Region.binds, l0, l1, l2, l3, l4, l5, l6, l7, l8] at x
                  · rfl
                have l10 : L 10 = true := by
                  cases e : L 10
                  · have x := hfin 10 _ rfl e
                    simp [Region.binds, l0, l1, l2, l3, l4, l5, l6, l7, l8, l9] at x
                  · rfl
                have l11 : L 11 = true := by
                  cases e : L 11
                  · have x := hfin 11 _ rfl e
                    simp [Region.binds, l0, l1, l2, l3, l4, l5, l6, l7, l8, l9, l10] at x
                  · rfl
                have l12 : L 12 = true := by
                  cases e : L 12
                  · have x := hfin 12 _ rfl e
                    simp [Region.binds, l0, l1, l2, l3, l4, l5, l6, l7, l8, l9, l10, l11] at x
                  · rfl
                have l13 : L 13 = true := by
                  cases e : L 13
                  · have x := hfin 13 _ rfl e
                    simp [Region.binds, l0, l1, l2, l3, l4, l5, l6, l7, l8, l9, l10, l11, l12] at x
                  · rfl
                have l14 : L 14 = true := by
                  cases e : L 14
                  · have x := hfin 14 _ rfl e
                    simp [Region.binds, l0, l1, l2, l3, l4, l5, l6, l7, l8, l9, l10, l11, l12, l13] at x
                  · rfl
                have l15 : L 15 = true := by
                  cases e : L 15
                  · have x := hfin 15 _ rfl e
                    simp [Region.binds, l0, l1, l2, l3, l4, l5, l6, l7, l8, l9, l10, l11, l12, l13, l14] at x
                  · rfl
                have l16 : L 16 = true := by
                  cases e : L 16
                  · have x := hfin 16 _ rfl e
                    simp [Region.binds, l0, l1, l2, l3, l4, l5, l6, l7, l8, l9, l10, l11, l12, l13, l14, l15] at x
                  · rfl
                have l17 : L 17 = true := by
                  cases e : L 17
                  · have x := hfin 17 _ rfl e
                    simp [Region.binds, l0, l1, l2, l3, l4, l5, l6, l7, l8, l9, l10, l11, l12, l13, l14, l15, l16] at x
                  · rfl
                have l18 : L 18 = true := by
                  cases e : L 18
                  · have x := hfin 18 _ rfl e
                    simp [Region.binds, l0, l1, l2, l3, l4, l5, l6, l7, l8, l9, l10, l11, l12, l13, l14, l15, l16, l17] at x
                  · rfl
                have l19 : L 19 = true := by
                  cases e : L 19
                  · have x := hfin 19 _ rfl e
                    simp [Region.binds, l0, l1, l2, l3, l4, l5, l6, l7, l8, l9, l10, l11, l12, l13, l14, l15, l16, l17, l18] at x
                  · rfl
                have l20 : L 20 = true := by
                  cases e : L 20
                  · have x := hfin 20 _ rfl e
                    simp [Region.binds, l0, l1, l2, l3, l4, l5, l6, l7, l8, l9, l10, l11, l12, l13, l14, l15, l16, l17, l18, l19] at x
                  · rfl
                simp only [l0, l1, l2, l3, l4, l5, l6, l7, l8, l9, l10, l11, l12, l13, l14, l15, l16, l17, l18, l19, l20, bsel_t]
                have hQ := hF.hQ l20
                have h18 := hF.h18 l18
                have HR := Lib.hid (show _ ∧ _ ∧ _ ∧ _ ∧ _ from ⟨hQ, hF.T, h18, hF.z, HBE4.out.trans (hF.z.mono (Nat.le_of_lt hs23))⟩)
                clear hF hfin hI0 hI1 hI2 hI3 hI4 hI5 hI6 hI7 hI8 hI9 hI10 hQ h18 l0 l1 l2 l3 l4 l5 l6 l7 l8 l9 l10 l11 l12 l13 l14 l15 l16 l17 l18 l19 l20
                go_wp2_with fail
                go_roundw
                case rel => exact ⟨k + 1, _, by omega, by go_num, HR.out.1, HR.out.2.1, by rw [HN.out, sortT_next]; exact HR.out.2.2.1, by rw [HN.out, sortT_next]; exact put_form HR.out.2.2.1, HBA4.out.trans HR.out.2.2.2.1, HR.out.2.2.2.2⟩
                case measure => simp [intOf]; omega
          · obtain rfl : k = l.steps.length := by omega
            rw [List.take_length] at hS hct hP
            have hO8 := (hT.lab hS).wide (T := fun b => W0.heap.size ≤ b ∧ b < wr.heap.size) (fun q hq => ⟨by omega, hq.2⟩)
            rw [quoK_all] at hO8
            have HFX := Lib.hid (HFIN.out wr _ _ _ HBR.out (show OwnLab _ _ _ (quoL l) from hO8))
            obtain ⟨t0, t1, _, _⟩ := box_two hP
            obtain ⟨r0, r1, r2, r3⟩ := box_two hr
            clear hP hT hS hbel hba hr hO8
            go_wp2_with fail
            obtain ⟨f1, f2, k0, k1⟩ := HFX.out
            exact bodyPost_ret (v := .tuple #[.agg #[.slice AU nU cU, .slice (some ⟨gt, 0, none⟩) (sortT (quoS l l.steps)).length ct], .bool true]) (by simp [results, Tryz.results37, go_sem, *]) rfl ⟨_, rfl, by rw [HRX.out]; exact f1, f2⟩

end Go.Proofs.YtdgnhfhaaghoaaaGreatDoor
