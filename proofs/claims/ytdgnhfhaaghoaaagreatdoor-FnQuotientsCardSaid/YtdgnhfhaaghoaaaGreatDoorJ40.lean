/- The program's QuotientOf, walked. -/
import Derived.Test.YtdgnhfhaaghoaaaGreatDoorProg
import Derived.Test.YtdgnhfhaaghoaaaGreatDoorJ30
import Derived.Test.YtdgnhfhaaghoaaaGreatDoorJ32
import Derived.Test.YtdgnhfhaaghoaaaGreatDoorJ20
import Derived.Test.YtdgnhfhaaghoaaaGreatDoorJ28
set_option linter.unusedSimpArgs false
set_option linter.unusedVariables false
namespace Go.Proofs.YtdgnhfhaaghoaaaGreatDoor
open Go.RowKit

def quoR (l : Lab) : Lab := if goodLab l then quoL l else ⟨[], []⟩
def quoS (l : Lab) (ss : List I3) : List I3 := (ss.filter fun s => isRep l s.1.toNat).map fun s => ((posR l s.1.toNat : Int), s.2.1, (posR l ((lastL l).getD s.2.2.toNat 0).toNat : Int))
def quoX (l : Lab) (s : I3) : I3 := ((posR l s.1.toNat : Int), s.2.1, (posR l ((lastL l).getD s.2.2.toNat 0).toNat : Int))
theorem quoS_take {l : Lab} {k : Nat} (h : k < l.steps.length) : quoS l (l.steps.take (k + 1)) = if isRep l (l.steps[k]).1.toNat then quoS l (l.steps.take k) ++ [quoX l l.steps[k]] else quoS l (l.steps.take k) := by
  unfold quoS quoX
  rw [List.take_succ_eq_append_getElem h, List.filter_append, List.map_append]
  split
  · rename_i hr; simp [hr]
  · rename_i hr; simp [hr]
theorem quoS_len (l : Lab) (k : Nat) : (quoS l (l.steps.take k)).length ≤ k := by
  unfold quoS
  rw [List.length_map]
  exact Nat.le_trans (List.length_filter_le _ _) (by rw [List.length_take]; omega)
theorem either_reps {l : Lab} {o : List Int} (h : EitherL (lastL l) [] o) : o = repsI l :=
  sorted_eq h.1 (reps_sorted l) fun x => by rw [h.2, reps_mem]; simp
theorem reps_len (l : Lab) : (repsI l).length ≤ l.shows.length := by
  unfold repsI
  rw [List.length_map]
  exact Nat.le_trans (List.length_filter_le _ _) (by simp)
theorem reps_val (l : Lab) {k : Nat} (h : k < (repsI l).length) : ∃ j : Nat, (repsI l).getD k 0 = (j : Int) ∧ j < l.shows.length := by
  have hm : (repsI l).getD k 0 ∈ repsI l := getD_mem h
  unfold repsI at hm
  rw [List.mem_map] at hm
  obtain ⟨j, hj, e⟩ := hm
  rw [List.mem_filter, List.mem_range] at hj
  unfold repsI
  exact ⟨j, e.symm, hj.1⟩
def quoM (l : Lab) (k : Nat) : List (List Int) := ((repsI l).take k).map fun i => l.shows.getD i.toNat []
theorem quoM_next {l : Lab} {k j : Nat} (h : k < (repsI l).length) (e : (repsI l).getD k 0 = (j : Int)) : quoM l (k + 1) = quoM l k ++ [l.shows.getD j []] := by
  have e2 : (repsI l)[k] = (j : Int) := by rw [← e]; simp [List.getD, h]
  unfold quoM
  rw [List.take_succ_eq_append_getElem h, List.map_append, e2]
  simp
theorem quoM_len {l : Lab} {k : Nat} (h : k ≤ (repsI l).length) : (quoM l k).length = k := by unfold quoM; rw [List.length_map, List.length_take]; omega
theorem quoM_all (l : Lab) : quoM l (repsI l).length = (quoL l).shows := by unfold quoM; rw [List.take_length]; rfl

set_option maxRecDepth 100000 in
set_option maxHeartbeats 16000000 in
theorem implQuotientOf_any (v : Value) (l : Lab) (w : World) (hs : SmallLab l) (hv : RLab w v l) :
    Calls Tryz.prog 36 #[v] w fun e w' => ∃ r, e = .returned (.tuple #[r, .bool (goodLab l)]) ∧ OwnLab w' (fun b => w.heap.size ≤ b ∧ b < w'.heap.size) r (quoR l) ∧ Below w.heap.size w w' := by
  have HV := Lib.hid (show ∀ W, Below w.heap.size w W → RLab W v l from fun W hb => hv.below hb)
  have HG := Lib.hid (fun W (hb : Below w.heap.size w W) => implIsLabelled_any v l W hs (hv.below hb))
  have HI := Lib.hid (fun W (hg : goodLab l = true) (hb : Below w.heap.size w W) => bisimilar_any v l W (hv.below hb) (fun W hW => rounds_any v l W (goodF_size hg).1 (goodF_size hg).2 (by have := goodF_many hg; omega) (goodF_steps hg) (goodF_acts hg) (goodF_rows hg) hW))
  have HRG := Lib.hid (show goodLab l = true → quoR l = quoL l from fun hg => by unfold quoR; rw [hg]; rfl)
  have HRB := Lib.hid (show goodLab l = false → quoR l = ⟨[], []⟩ from fun hg => by unfold quoR; rw [hg]; rfl)
  obtain ⟨sv, tv, rfl, hsv, htv⟩ := hv
  obtain ⟨A, c0, vs, rfl, _, _, _, _⟩ := id hsv
  obtain ⟨D, d, rfl, _, _⟩ := id htv
  have HSV := Lib.hid (show ∀ W, Below w.heap.size w W → RSS W (.slice A l.shows.length c0) l.shows from fun W hb => hsv.below hb)
  have HTV := Lib.hid (show ∀ W, Below w.heap.size w W → RA3 W (.slice D l.steps.length d) l.steps from fun W hb => htv.below hb)
  obtain ⟨W0, hW0⟩ : ∃ W0, W0 = (w.alloc (.cells #[.slice A l.shows.length c0, .slice D l.steps.length d] 27)).alloc (.cells #[.slice none 0 0, .slice none 0 0] 27) := ⟨_, rfl⟩
  have hz0 : Below w.heap.size w W0 := by rw [hW0]; exact ((Below.refl _ _).alloc (Nat.le_refl _) _).alloc (by simp) _
  have hs0 : W0.heap.size = w.heap.size + 1 + 1 := by rw [hW0]; simp
  have bx0 : W0.heap[w.heap.size]? = some (.cells #[.slice A l.shows.length c0, .slice D l.steps.length d] 27) := by rw [hW0]; exact (heap_alloc_old _ _ (by simp)).trans (heap_alloc_new _ _)
  have br0 : W0.heap[w.heap.size + 1]? = some (.cells #[.slice none 0 0, .slice none 0 0] 27) := by rw [hW0]; exact heap_alloc2_new _ _ _
  have HX := Lib.hid (show ∀ W, Below W0.heap.size W0 W → (W.cell? ⟨w.heap.size, 0, none⟩ = some (.slice A l.shows.length c0) ∧ W.cell? ⟨w.heap.size, 1, none⟩ = some (.slice D l.steps.length d)) ∧ W.heap[w.heap.size + 1]? = some (.cells #[.slice none 0 0, .slice none 0 0] 27) from fun W hW => by
    have := (hW.block _ (by omega)).trans bx0
    exact ⟨⟨cell_of_row _ _ _ _ _ _ this, cell_of_row _ _ _ _ _ _ this⟩, (hW.block _ (by omega)).trans br0⟩)
  have HZ0 := Lib.hid hz0
  have hsz0 : w.heap.size ≤ W0.heap.size := by omega
  have hsz02 : w.heap.size + 1 < W0.heap.size := by omega
  have HFIN := Lib.hid (show ∀ W x y R, Below W0.heap.size W0 W → OwnLab W (fun b => W0.heap.size ≤ b ∧ b < W.heap.size) (.agg #[x, y]) R → OwnLab ((W.setCell ⟨w.heap.size + 1, 0, none⟩ x).setCell ⟨w.heap.size + 1, 1, none⟩ y) (fun b => w.heap.size ≤ b ∧ b < ((W.setCell ⟨w.heap.size + 1, 0, none⟩ x).setCell ⟨w.heap.size + 1, 1, none⟩ y).heap.size) (.agg #[x, y]) R ∧ Below w.heap.size w ((W.setCell ⟨w.heap.size + 1, 0, none⟩ x).setCell ⟨w.heap.size + 1, 1, none⟩ y) ∧ ((W.setCell ⟨w.heap.size + 1, 0, none⟩ x).setCell ⟨w.heap.size + 1, 1, none⟩ y).cell? ⟨w.heap.size + 1, 0, none⟩ = some x ∧ ((W.setCell ⟨w.heap.size + 1, 0, none⟩ x).setCell ⟨w.heap.size + 1, 1, none⟩ y).cell? ⟨w.heap.size + 1, 1, none⟩ = some y from fun W x y R hW ho => by
    have hk9 : Kept (fun q => q = w.heap.size + 1) W ((W.setCell ⟨w.heap.size + 1, 0, none⟩ x).setCell ⟨w.heap.size + 1, 1, none⟩ y) := Kept.setCell (S := fun q => q = w.heap.size + 1) (Kept.setCell (S := fun q => q = w.heap.size + 1) (Kept.refl _ W) (p := ⟨w.heap.size + 1, 0, none⟩) rfl x) (p := ⟨w.heap.size + 1, 1, none⟩) rfl y
    obtain ⟨k0, k1, _, _⟩ := box_two (heap_setCell_same _ (w.heap.size + 1) 1 _ _ y (heap_setCell_same _ (w.heap.size + 1) 0 _ _ x (HX.out W hW).2))
    exact ⟨(ho.kept hk9 (fun q h1 h2 => by omega)).wide (fun q hq => ⟨by omega, Nat.lt_of_lt_of_le hq.2 hk9.size⟩), ((HZ0.out.trans (hW.mono hsz0)).setCell (p := ⟨w.heap.size + 1, 0, none⟩) (by dsimp only; omega) x).setCell (p := ⟨w.heap.size + 1, 1, none⟩) (by dsimp only; omega) y, k0, k1⟩)
  have HW0 := Lib.hid hW0
  clear bx0 br0 hz0 hs0 hW0
  cases hg : goodLab l with
  | false =>
    rw [hg] at HG
    have HRX := Lib.hid (HRB.out hg)
    clear hg
    go_enter Tryz.func36, Tryz.ntmps36
    go_wp2_with fail
    rw [← HW0.out]
    go_wp2_with fail
    refine (HG.out W0 HZ0.out).mono ?_
    rintro e w1 ⟨rfl, hb1⟩
    obtain ⟨⟨x0, x1⟩, hr⟩ := HX.out w1 hb1
    obtain ⟨r0, r1, r2, r3⟩ := box_two hr
    have HB := Lib.hid hb1
    clear hb1 hr
    go_wp2_with fail
    obtain ⟨f1, f2, k0, k1⟩ := HFIN.out w1 (.slice none 0 0) (.slice none 0 0) ⟨[], []⟩ HB.out (ownLab_nil _ _)
    exact bodyPost_ret (v := .tuple #[.agg #[.slice none 0 0, .slice none 0 0], .bool false]) (by simp [results, Tryz.results36, go_sem, *]) rfl ⟨_, rfl, by rw [HRX.out]; exact f1, f2⟩
  | true =>
    rw [hg] at HG
    have HRX := Lib.hid (HRG.out hg)
    have HGD := Lib.hid hg
    have hn40 := (goodF_size hg).2
    have hst4 := goodF_many hg
    have hlen : (lastL l).length = l.shows.length := parts_len l _
    clear hg
    go_enter Tryz.func36, Tryz.ntmps36
    go_wp2_with fail
    rw [← HW0.out]
    go_wp2_with fail
    refine (HG.out W0 HZ0.out).mono ?_
    rintro e w1 ⟨rfl, hb1⟩
    obtain ⟨⟨x0, x1⟩, hr⟩ := HX.out w1 hb1
    have hs1 := hb1.size
    have HB := Lib.hid hb1
    clear hb1 hr
    go_wp2_with fail
    (with_reducible refine (HI.out w1 HGD.out (HZ0.out.trans (HB.out.mono hsz0))).mono ?_)
    rintro e w2 ⟨r2, rfl, hr2, hb2⟩
    rw [hlen] at hr2
    obtain ⟨A2, c2, rfl, hr2⟩ := owns_form hr2
    have HB2 := Lib.hid (HB.out.trans (hb2.mono hs1))
    have hs2 := HB2.out.size
    have HR2 := Lib.hid (show ∀ W, Below w2.heap.size w2 W → Cells W A2 (ints (lastL l)) from fun W hW => (Cells.of_owns hr2).below hW)
    have HEI := either_any A2 none c2 0 (lastL l) [] w2 (by rw [hlen]; simp; omega) (HR2.out w2 (Below.refl _ _)) (Cells.nil _ _)
    rw [hlen, show ([] : List Int).length = 0 from rfl] at HEI
    have HEI := Lib.hid HEI
    clear hb2 hr2 x0 x1
    go_wp2_with fail
    (with_reducible refine HEI.out.mono ?_)
    rintro e w3 ⟨r3, o, rfl, ho, hr3, hb3⟩
    obtain rfl := either_reps ho
    obtain ⟨A3, c3, rfl, hr3⟩ := owns_form hr3
    have HB3 := Lib.hid (HB2.out.trans (hb3.mono hs2))
    have hs3 := HB3.out.size
    have HR3 := Lib.hid (show ∀ W, Below w3.heap.size w3 W → Cells W A3 (ints (repsI l)) ∧ Cells W A2 (ints (lastL l)) from fun W hW => ⟨(Cells.of_owns hr3).below hW, HR2.out W (hb3.trans (hW.mono hb3.size))⟩)
    have hrl := reps_len l
    have HM0 := Lib.hid (show TRows (w3.alloc (.cells #[.slice none 0 0, .slice none 0 0] 27)) w3.heap.size (.slice none 0 0) (quoM l 0) from ⟨[], World.ownsRow_nil _ _ _ _, fun i v xs h => by simp at h, fun i j v v' b _ h => by simp at h⟩)
    have HP0 := Lib.hid (heap_alloc_new w3 (.cells #[.slice none 0 0, .slice none 0 0] 27))
    have HBA := Lib.hid ((Below.refl w3.heap.size w3).alloc (Nat.le_refl _) (.cells #[.slice none 0 0, .slice none 0 0] 27))
    clear ho hr3 hb3
    go_wp2_with fail
    go_loopw [23] (fun i wr => ∃ (k : Nat) (u : Value), k ≤ (repsI l).length ∧ i = .int .i64 k ∧ wr.heap[w3.heap.size]? = some (.cells #[u, .slice none 0 0] 27) ∧ TRows wr w3.heap.size u (quoM l k) ∧ Below w3.heap.size w3 wr)
      (fun i _ => (repsI l).length - (intOf i).toNat)
    case atStart => exact ⟨0, _, Nat.zero_le _, rfl, HP0.out, HM0.out, HBA.out⟩
    case round =>
      clear HM0 HP0 HBA
      obtain ⟨k, u, hk, rfl, hP, hT, hbel⟩ := hrel
      have hsr := hbel.size
      have HPP := Lib.hid hP
      have HTT := Lib.hid hT
      have HBE := Lib.hid hbel
      have HBR := Lib.hid (HB3.out.trans (hbel.mono hs3))
      have hsbr := HBR.out.size
      by_cases hlt : k < (repsI l).length
      · obtain ⟨b3, o3, rfl, hc3⟩ := (HR3.out wr hbel).1.int hlt
        have ck := hc3 k hlt
        obtain ⟨j, hj, hjn⟩ := reps_val l hlt
        rw [hj] at ck
        have HNX := Lib.hid (quoM_next hlt hj)
        obtain ⟨Aj, aj, sb, so, eA, hrow⟩ : ∃ Aj aj, ∃ (sb so : Nat) , A = some ⟨sb, so, none⟩ ∧ ∀ W, Below w.heap.size w W → W.cell? ⟨sb, so + j, none⟩ = some (.slice Aj (l.shows.getD j []).length aj) ∧ Cells W Aj (ints (l.shows.getD j [])) := by
          obtain ⟨sb, so, e, hr⟩ := rss_rows (X := fun q => l.shows.getD q default) (HSV.out w (Below.refl _ _)) (fun _ => rfl) (by omega)
          obtain ⟨Aj, aj, h⟩ := hr j hjn
          exact ⟨Aj, aj, sb, so, e, h⟩
        subst eA
        have HROW := Lib.hid hrow
        obtain ⟨⟨x0, x1⟩, hr⟩ := HX.out wr HBR.out
        have hrowj := (hrow wr (HZ0.out.trans (HBR.out.mono hsz0))).1
        have r0 : (0 : Int) ≤ (k : Int) := by omega
        have r1 : (k : Int) < ((repsI l).length : Int) := by omega
        have q0 : (0 : Int) ≤ (j : Int) := by omega
        have q1 : (j : Int) < (l.shows.length : Int) := by omega
        have hxl : (l.shows.getD j []).length ≤ 8 := (goodF_row HGD.out hjn).2.2
        have HQL := Lib.hid (quoM_len (l := l) (k := k) (by omega))
        clear hc3 hP hT hbel hr hj hrow
        generalize l.shows.getD j [] = xj at *
        go_wp2_with fail
        refine wp_region_inv (by kernel_rfl) (fun L act W => ∃ (r : Value) (bs : Nat) (v : Value), act = ⟨#[Value.agg #[Value.slice (some ⟨sb, so, none⟩) l.shows.length c0, Value.slice D l.steps.length d], Value.pointer (some ⟨w.heap.size, 0, none⟩), Value.pointer (some ⟨w.heap.size + 1, 0, none⟩), Value.bool false, Value.slice A2 l.shows.length c2, Value.slice (some ⟨b3, o3, none⟩) (repsI l).length c3, Value.pointer (some ⟨w3.heap.size, 0, none⟩), undef, Value.int IntKind.i64 (j : Int), undef, undef, undef, Value.agg #[Value.slice (some ⟨sb, so, none⟩) l.shows.length c0, Value.slice D l.steps.length d], Value.bool true, Value.bool false, undef, Value.agg #[Value.slice (some ⟨sb, so, none⟩) l.shows.length c0, Value.slice D l.steps.length d], Value.slice A2 l.shows.length c2, Value.slice A2 l.shows.length c2, Value.slice (some ⟨b3, o3, none⟩) (repsI l).length c3, Value.agg #[Value.slice none 0 0, Value.slice none 0 0], Value.slice (some ⟨b3, o3, none⟩) (repsI l).length c3, Value.int IntKind.i64 ((repsI l).length : Int), Value.int IntKind.i64 (k : Int), Value.bool true, Value.pointer (some ⟨b3, o3 + k, none⟩), Value.int IntKind.i64 (j : Int), bsel (L 0) (.pointer (some ⟨w3.heap.size, 0, none⟩)) (u27), bsel (L 1) (u) (u28), bsel (L 2) (.pointer (some ⟨w.heap.size, 0, none⟩)) (u29), bsel (L 3) (.slice (some ⟨sb, so, none⟩) l.shows.length c0) (u30), bsel (L 4) (.int .i64 (j : Int)) (u31), bsel (L 5) (.pointer (some ⟨sb, so + j, none⟩)) (u32), bsel (L 6) (.slice Aj xj.length aj) (u33), bsel (L 7) (r) (u34), bsel (L 8) (.slice (some ⟨bs, 0, none⟩) 1 1) (u35), bsel (L 9) (v) (u36), bsel (L 10) (.pointer (some ⟨w3.heap.size, 0, none⟩)) (u37), u38, undef, undef, undef, undef, undef, undef, undef, undef, undef, undef, undef, undef, undef, undef, undef, undef, undef, undef, undef, undef, undef, undef, undef, undef, undef, undef, undef, undef, undef, undef, undef, undef, undef, undef, undef], []⟩ ∧ (L 9 = true → L 1 = true) ∧ SQ wr w3.heap.size w3.heap.size u (.slice none 0 0) 0 [] (quoM l k) xj (L 7) (L 8) (L 9) (L 11) r bs v W) ?h0 ?step ?fin
        case h0 => exact ⟨.bool false, 0, .bool false, rfl, fun h => absurd h Bool.false_ne_true, SQ.start HTT.out (World.ownsRow_nil _ _ _ _) HPP.out _ _ _⟩
        case step =>
          intro L act W q oo hJ hL ho hd K3 hK3
          obtain ⟨r, bs, v, rfl, hI0, hF⟩ := hJ
          match q, ho with
          | 0, ho =>
            simp only [List.getElem?_toArray, List.getElem?_cons_zero, List.getElem?_cons_succ, Option.some.injEq] at ho
            subst ho
            simp [Region.binds] at hd
            try simp only [hd, bsel_t]
            have HF := Lib.hid hF
            clear hF
            have HQI0 := Lib.hid hI0
            clear hI0
            go_simp
            exact hK3 _ _ ⟨r, bs, v, by first | (simp [upd, bsel]; done) | simp [upd, bsel, hd], by simpa [upd] using HQI0.out, HF.out⟩
          | 1, ho =>
            simp only [List.getElem?_toArray, List.getElem?_cons_zero, List.getElem?_cons_succ, Option.some.injEq] at ho
            subst ho
            simp [Region.binds] at hd
            have hz0 : L 9 = false := by
              cases e : L 9
              · rfl
              · exact absurd (hI0 e) (by simp [hL])
            have n11 : L 11 = false := by
              cases e : L 11
              · rfl
              · exact absurd (hF.o3 e) (by simp [hz0])
            have s0 := cell_of_row W _ 0 _ _ _ (hF.hP n11)
            try simp only [hd, bsel_t]
            have HF := Lib.hid hF
            clear hF
            have HQI0 := Lib.hid hI0
            clear hI0
            go_simp
            exact hK3 _ _ ⟨r, bs, v, by simp [upd, bsel, hd, hz0], by simp [upd], HF.out⟩
          | 2, ho =>
            simp only [List.getElem?_toArray, List.getElem?_cons_zero, List.getElem?_cons_succ, Option.some.injEq] at ho
            subst ho
            simp [Region.binds] at hd
            try simp only [hd, bsel_t]
            have HF := Lib.hid hF
            clear hF
            have HQI0 := Lib.hid hI0
            clear hI0
            go_simp
            exact hK3 _ _ ⟨r, bs, v, by first | (simp [upd, bsel]; done) | simp [upd, bsel, hd], by simpa [upd] using HQI0.out, HF.out⟩
          | 3, ho =>
            simp only [List.getElem?_toArray, List.getElem?_cons_zero, List.getElem?_cons_succ, Option.some.injEq] at ho
            subst ho
            simp [Region.binds] at hd
            obtain ⟨⟨x0, x1⟩, _⟩ := HX.out W (HBR.out.trans (hF.z.mono hs3))
            try simp only [hd, bsel_t]
            have HF := Lib.hid hF
            clear hF
            have HQI0 := Lib.hid hI0
            clear hI0
            go_simp
            exact hK3 _ _ ⟨r, bs, v, by simp [upd, bsel, hd], by simpa [upd] using HQI0.out, HF.out⟩
          | 4, ho =>
            simp only [List.getElem?_toArray, List.getElem?_cons_zero, List.getElem?_cons_succ, Option.some.injEq] at ho
            subst ho
            simp [Region.binds] at hd
            try simp only [hd, bsel_t]
            have HF := Lib.hid hF
            clear hF
            have HQI0 := Lib.hid hI0
            clear hI0
            go_simp
            exact hK3 _ _ ⟨r, bs, v, by first | (simp [upd, bsel]; done) | simp [upd, bsel, hd], by simpa [upd] using HQI0.out, HF.out⟩
          | 5, ho =>
            simp only [List.getElem?_toArray, List.getElem?_cons_zero, List.getElem?_cons_succ, Option.some.injEq] at ho
            subst ho
            simp [Region.binds] at hd
            try simp only [hd, bsel_t]
            have HF := Lib.hid hF
            clear hF
            have HQI0 := Lib.hid hI0
            clear hI0
            go_simp
            exact hK3 _ _ ⟨r, bs, v, by simp [upd, bsel, hd], by simpa [upd] using HQI0.out, HF.out⟩
          | 6, ho =>
            simp only [List.getElem?_toArray, List.getElem?_cons_zero, List.getElem?_cons_succ, Option.some.injEq] at ho
            subst ho
            simp [Region.binds] at hd
            have hrow1 := (HROW.out W (HZ0.out.trans ((HBR.out.trans (hF.z.mono hs3)).mono hsz0))).1
            try simp only [hd, bsel_t]
            have HF := Lib.hid hF
            clear hF
            have HQI0 := Lib.hid hI0
            clear hI0
            go_simp
            exact hK3 _ _ ⟨r, bs, v, by simp [upd, bsel, hd], by simpa [upd] using HQI0.out, HF.out⟩
          | 7, ho =>
            simp only [List.getElem?_toArray, List.getElem?_cons_zero, List.getElem?_cons_succ, Option.some.injEq] at ho
            subst ho
            simp [Region.binds] at hd
            rw [hL] at hF
            simp only [hd, bsel_t]
            have hrow2 := (HROW.out W (HZ0.out.trans ((HBR.out.trans (hF.z.mono hs3)).mono hsz0))).2
            have HF := Lib.hid hF
            clear hF
            have HQI0 := Lib.hid hI0
            clear hI0
            go_simp
            go_at_call 87
            (with_reducible refine (cloneI_any Aj aj xj W (by omega) hrow2).mono ?_)
            rintro e W' ⟨r', rfl, hr, hb⟩
            have HF := Lib.hid (HF.out.called hsr hb hr)
            clear hr hb
            go_simp
            exact hK3 _ _ ⟨r', bs, v, by simp [upd, bsel, hd], by simpa [upd] using HQI0.out, by simpa [upd, hd] using HF.out⟩
          | 8, ho =>
            simp only [List.getElem?_toArray, List.getElem?_cons_zero, List.getElem?_cons_succ, Option.some.injEq] at ho
            subst ho
            simp [Region.binds] at hd
            have d7 : L 7 = true := by simp [hd]
            rw [d7, hL] at hF
            obtain ⟨e9, _⟩ := hF.q8
            obtain ⟨Ar, cr, rfl, _⟩ := owns_form (hF.h7 rfl e9)
            simp only [hd, bsel_t]
            have HF := Lib.hid (hF.build hsr)
            clear hF e9
            have HQI0 := Lib.hid hI0
            clear hI0
            go_simp
            exact hK3 _ _ ⟨.slice Ar xj.length cr, W.heap.size, v, by simp [upd, bsel, hd], by simpa [upd] using HQI0.out, by simpa [upd, hd] using HF.out⟩
          | 9, ho =>
            simp only [List.getElem?_toArray, List.getElem?_cons_zero, List.getElem?_cons_succ, Option.some.injEq] at ho
            subst ho
            simp [Region.binds] at hd
            have d8 : L 8 = true := by simp [hd]
            rw [d8, hL] at hF
            have d7 : L 7 = true := hF.o1 rfl
            obtain ⟨Ar, cr, rfl, _⟩ := owns_form (hF.h7 d7 rfl)
            obtain ⟨vs, a1, a2, a3, a4⟩ := hF.hT rfl
            simp only [hd, bsel_t]
            have HF := Lib.hid hF
            clear hF
            refine step_appG el_ints rfl (.tmp 28) (.tmp 35) rfl w3.heap.size u _ vs (by rfl) a1 ⟨bs, 0, none⟩ 1 1 [.slice Ar xj.length cr] (by rfl) rfl (fun j' u' hj' => by match j', hj' with | 0, hj' => (simp at hj'; subst hj'; exact cell_of_row W bs 0 _ _ _ (HF.out.h8 rfl rfl))) (one1 rfl) (by rw [HQL.out]; unfold maxLen; omega) (by rw [HQL.out]; omega) (Nat.le_trans hsr HF.out.z.size) ?_
            intro v' W' ho hg
            have HF := Lib.hid (HF.out.app hsr a1 a2 a3 a4 ho hg)
            clear ho hg a1 a2 a3 a4
            have HQI0 := Lib.hid hI0
            clear hI0
            go_simp
            exact hK3 _ _ ⟨.slice Ar xj.length cr, bs, v', by simp [upd, bsel, hd], by simp [upd, hd], by simpa [upd, hd] using HF.out⟩
          | 10, ho =>
            simp only [List.getElem?_toArray, List.getElem?_cons_zero, List.getElem?_cons_succ, Option.some.injEq] at ho
            subst ho
            simp [Region.binds] at hd
            try simp only [hd, bsel_t]
            have HF := Lib.hid hF
            clear hF
            have HQI0 := Lib.hid hI0
            clear hI0
            go_simp
            exact hK3 _ _ ⟨r, bs, v, by first | (simp [upd, bsel]; done) | simp [upd, bsel, hd], by simpa [upd] using HQI0.out, HF.out⟩
          | 11, ho =>
            simp only [List.getElem?_toArray, List.getElem?_cons_zero, List.getElem?_cons_succ, Option.some.injEq] at ho
            subst ho
            simp [Region.binds] at hd
            have d9 : L 9 = true := by simp [hd]
            rw [d9, hL] at hF
            obtain ⟨Av, nv, cv, rfl⟩ : ∃ Av nv cv, v = .slice Av nv cv := by
              obtain ⟨vs, a1, _⟩ := hF.h9 rfl
              obtain ⟨Av, cv, e, _⟩ := owns_form a1
              exact ⟨Av, _, cv, e⟩
            have s0 := cell_of_row W _ 0 _ _ _ (hF.hP rfl)
            have s1 := frozen_of_row W _ 0 _ _ (hF.hP rfl)
            simp only [hd, bsel_t]
            have HF := Lib.hid (hF.store (Nat.le_refl _))
            clear hF
            have HQI0 := Lib.hid hI0
            clear hI0
            go_simp
            exact hK3 _ _ ⟨r, bs, .slice Av nv cv, by simp [upd, bsel, hd], by simpa [upd] using HQI0.out, by simpa [upd, hd] using HF.out⟩
          | q + 12, ho => simp at ho
        case fin =>
          intro L act W hJ hfin
          obtain ⟨r, bs, v, rfl, hI0, hF⟩ := hJ
          have l0 : L 0 = true := by
            cases e : L 0
            · have x := hfin 0 _ rfl e
              simp [Region.binds] at x
            · rfl
          have l1 : L 1 = true := by
            cases e : L 1
            · have x := hfin 1 _ rfl e
              simp [Region.binds, l0] at x
            · rfl
          have l2 : L 2 = true := by
            cases e : L 2
            · have x := hfin 2 _ rfl e
              simp [Region.binds, l0, l1] at x
            · rfl
          have l3 : L 3 = true := by
            cases e : L 3
            · have x := hfin 3 _ rfl e
              simp [Region.binds, l0, l1, l2] at x
            · rfl
          have l4 : L 4 = true := by
            cases e : L 4
            · have x := hfin 4 _ rfl e
              simp [Region.binds, l0, l1, l2, l3] at x
            · rfl
          have l5 : L 5 = true := by
            cases e : L 5
            · have x := hfin 5 _ rfl e
              simp [Region.binds, l0, l1, l2, l3, l4] at x
            · rfl
          have l6 : L 6 = true := by
            cases e : L 6
            · have x := hfin 6 _ rfl e
              simp [Region.binds, l0, l1, l2, l3, l4, l5] at x
            · rfl
          have l7 : L 7 = true := by
            cases e : L 7
            · have x := hfin 7 _ rfl e
              simp [Region.binds, l0, l1, l2, l3, l4, l5, l6] at x
            · rfl
          have l8 : L 8 = true := by
            cases e : L 8
            · have x := hfin 8 _ rfl e
              simp [Region.binds, l0, l1, l2, l3, l4, l5, l6, l7] at x
            · rfl
          have l9 : L 9 = true := by
            cases e : L 9
            · have x := hfin 9 _ rfl e
              simp [Region.binds, l0, l1, l2, l3, l4, l5, l6, l7, l8] at x
            · rfl
          have l10 : L 10 = true := by
            cases e : L 10
            · have x := hfin 10 _ rfl e
              simp [Region.binds, l0, l1, l2, l3, l4, l5, l6, l7, l8, l9] at x
            · rfl
          have l11 : L 11 = true := by
            cases e : L 11
            · have x := hfin 11 _ rfl e
              simp [Region.binds, l0, l1, l2, l3, l4, l5, l6, l7, l8, l9, l10] at x
            · rfl
          simp only [l0, l1, l2, l3, l4, l5, l6, l7, l8, l9, l10, l11, bsel_t]
          have hQ := hF.hQ l11
          have h9 := hF.h9 l9
          have HR := Lib.hid (show _ ∧ _ ∧ _ from ⟨hQ, h9, HBE.out.trans hF.z⟩)
          clear hF hfin hI0 hQ h9 l0 l1 l2 l3 l4 l5 l6 l7 l8 l9 l10 l11
          go_wp2_with fail
          go_roundw
          case rel => exact ⟨k + 1, _, by omega, by go_num, HR.out.1, by rw [HNX.out]; exact HR.out.2.1, HR.out.2.2⟩
          case measure => simp [intOf]; omega
      · obtain rfl : k = (repsI l).length := by omega
        obtain ⟨AU, nU, cU, rfl⟩ : ∃ AU nU cU, u = .slice AU nU cU := by
          obtain ⟨vs', a1, _⟩ := hT
          obtain ⟨AU, cU, e, _⟩ := owns_form a1
          exact ⟨AU, _, cU, e⟩
        obtain ⟨⟨x0, x1⟩, hr⟩ := HX.out wr HBR.out
        have HQ0 := Lib.hid (show wr.ownsRow w3.heap.size 103 3 (.slice none 0 0) (quoS l (l.steps.take 0)).length ((quoS l (l.steps.take 0)).flatMap tri) from World.ownsRow_nil _ _ _ _)
        have HQL := Lib.hid (fun k => quoS_len l k)
        clear hP hT hbel hr
        go_wp2_with fail
        generalize wr = wa at *
        go_loopw [42] (fun i wr => ∃ (k : Nat) (t : Value), k ≤ l.steps.length ∧ i = .int .i64 k ∧ wr.heap[w3.heap.size]? = some (.cells #[.slice AU nU cU, t] 27) ∧ TRows wr w3.heap.size (.slice AU nU cU) (quoM l (repsI l).length) ∧ wr.ownsRow w3.heap.size 103 3 t (quoS l (l.steps.take k)).length ((quoS l (l.steps.take k)).flatMap tri) ∧ Below w3.heap.size w3 wr)
          (fun i _ => l.steps.length - (intOf i).toNat)
        case atStart => exact ⟨0, _, Nat.zero_le _, rfl, HPP.out, HTT.out, HQ0.out, HBE.out⟩
        case round =>
          clear HPP HTT HQ0 HBE HBR x0 x1
          obtain ⟨k, t, hk, rfl, hP, hT, hS, hbel⟩ := hrel
          have hsr := hbel.size
          have HPP := Lib.hid hP
          have HTT := Lib.hid hT
          have HSS := Lib.hid hS
          have HBE := Lib.hid hbel
          have HBR := Lib.hid (HB3.out.trans (hbel.mono hs3))
          have hsbr := HBR.out.size
          obtain ⟨⟨x0, x1⟩, hr⟩ := HX.out wr HBR.out
          by_cases hlt : k < l.steps.length
          · obtain ⟨bD, oD, c', e, h0, h1, h2⟩ := (HTV.out wr (HZ0.out.trans (HBR.out.mono hsz0))).at_ (List.getElem?_eq_getElem hlt)
            cases e
            obtain ⟨un, zn, hu, hz2, hun, hzn⟩ := goodF_steps HGD.out _ (List.getElem_mem hlt)
            have hqt := quoS_take hlt
            rw [hu, Int.toNat_natCast] at hqt
            have hqx : quoX l l.steps[k] = ((posR l un : Int), (l.steps[k]).2.1, (posR l ((lastL l).getD zn 0).toNat : Int)) := by unfold quoX; rw [hu, hz2, Int.toNat_natCast, Int.toNat_natCast]
            rw [hu] at h0
            rw [hz2] at h2
            obtain ⟨kk, hkk, hkkn, hkr⟩ := last_rep l hzn
            rw [hkk, Int.toNat_natCast] at hqx
            obtain ⟨W4, hW4⟩ : ∃ W4, W4 = wr.alloc (.cells #[.int .i64 (un : Int), .int .i64 l.steps[k].2.1, .int .i64 (zn : Int)] 103) := ⟨_, rfl⟩
            have hb4 : Below wr.heap.size wr W4 := by rw [hW4]; exact (Below.refl _ _).alloc (Nat.le_refl _) _
            have bx4 : W4.heap[wr.heap.size]? = some (.cells #[.int .i64 (un : Int), .int .i64 l.steps[k].2.1, .int .i64 (zn : Int)] 103) := by rw [hW4]; exact heap_alloc_new _ _
            have hlt4 : wr.heap.size < W4.heap.size := by rw [hW4]; simp
            have HBX := Lib.hid (show ∀ V, Below W4.heap.size W4 V → V.cell? ⟨wr.heap.size, 0, none⟩ = some (.int .i64 (un : Int)) ∧ V.cell? ⟨wr.heap.size, 1, none⟩ = some (.int .i64 l.steps[k].2.1) ∧ V.cell? ⟨wr.heap.size, 2, none⟩ = some (.int .i64 (zn : Int)) from fun V hV => by
              have := (hV.block _ hlt4).trans bx4
              exact ⟨cell_of_row _ _ _ _ _ _ this, cell_of_row _ _ _ _ _ _ this, cell_of_row _ _ _ _ _ _ this⟩)
            have HBE4 := Lib.hid (hbel.trans (hb4.mono hsr))
            have HP4 := Lib.hid ((hb4.block _ (Array.getElem?_eq_some_iff.1 hP).1).trans hP)
            have HT4 := Lib.hid (hT.below hb4 (Nat.le_refl _))
            have HS4 := Lib.hid (owns_below hS hb4 (Nat.le_refl _))
            have hs4 := HBE4.out.size
            obtain ⟨g0, g1, g2⟩ := HBX.out W4 (Below.refl _ _)
            have HIX := Lib.hid (fun (d : Int) V (hV : Below w3.heap.size w3 V) => indexI_any A3 c3 (repsI l) d V (by omega) (HR3.out V hV).1)
            have hql := HQL.out k
            obtain ⟨b2, o2, eA2, _⟩ := (HR3.out w3 (Below.refl _ _)).2.int (k := zn) (by rw [hlen]; omega)
            have HPZ := Lib.hid (show ∀ V, Below w3.heap.size w3 V → V.cell? ⟨b2, o2 + zn, none⟩ = some (.int .i64 (kk : Int)) from fun V hV => by
              obtain ⟨b2', o2', e, hc⟩ := (HR3.out V hV).2.int (k := zn) (by rw [hlen]; omega)
              rw [eA2] at e
              cases e
              rw [← hkk]
              exact hc zn (by rw [hlen]; omega))
            subst eA2
            have r0 : (0 : Int) ≤ (k : Int) := by omega
            have r1 : (k : Int) < (l.steps.length : Int) := by omega
            have q0 : (0 : Int) ≤ (zn : Int) := by omega
            have q1 : (zn : Int) < (l.shows.length : Int) := by omega
            have HWD := Lib.hid hW4
            rw [hW4] at g0 g1 g2
            clear hP hT hS hbel hb4 bx4 hlt4 hW4 hr hu hz2
            cases hrep : isRep l un
            · rw [hrep, if_neg Bool.false_ne_true] at hqt
              have HN := Lib.hid hqt
              have hix := HIX.out (un : Int) W4 HBE4.out
              rw [reps_no l hrep] at hix
              have HI4 := Lib.hid hix
              clear hqt hix hqx hrep
              generalize l.steps[k] = x at *
              go_wp2_with fail
              rw [← HWD.out]
              (with_reducible refine HI4.out.mono ?_)
              rintro e w6 ⟨rfl, rfl⟩
              go_wp2_with fail
              go_roundw
              case rel => exact ⟨k + 1, t, by omega, by go_num, HP4.out, HT4.out, by rw [HN.out]; exact HS4.out, HBE4.out⟩
              case measure => simp [intOf]; omega
            · rw [hrep, if_pos rfl, hqx] at hqt
              have HN := Lib.hid hqt
              have hix := HIX.out (un : Int) W4 HBE4.out
              rw [reps_idx l hun hrep] at hix
              have HI4 := Lib.hid hix
              have HI5 := Lib.hid (show ∀ V, Below w3.heap.size w3 V → Calls Tryz.prog 88 #[.slice A3 (repsI l).length c3, .int .i64 (kk : Int)] V (fun e w' => e = .returned (.int .i64 (posR l kk : Int)) ∧ V = w') from fun V hV => by
                have := HIX.out (kk : Int) V hV
                rw [reps_idx l hkkn hkr] at this
                exact this)
              have hp0 : (0 : Int) ≤ (posR l un : Int) := by omega
              clear hqt hix hqx hrep
              generalize l.steps[k] = x at *
              generalize quoS l (l.steps.take k) = qs at *
              generalize posR l un = pu at *
              generalize posR l kk = pk at *
              go_wp2_with fail
              rw [← HWD.out]
              (with_reducible refine HI4.out.mono ?_)
              rintro e w6 ⟨rfl, rfl⟩
              clear g0 g1 g2
              go_wp2_with fail
              refine wp_region_inv (by kernel_rfl) (fun L act W => ∃ (bs : Nat) (v : Value), act = ⟨#[Value.agg #[Value.slice A l.shows.length c0, Value.slice (some ⟨bD, oD, none⟩) l.steps.length d], Value.pointer (some ⟨w.heap.size, 0, none⟩), Value.pointer (some ⟨w.heap.size + 1, 0, none⟩), Value.bool false, Value.slice (some ⟨b2, o2, none⟩) l.shows.length c2, Value.slice A3 (repsI l).length c3, Value.pointer (some ⟨w3.heap.size, 0, none⟩), undef, u8, undef, Value.pointer (some ⟨wr.heap.size, 0, none⟩), Value.int IntKind.i64 (pu : Int), Value.agg #[Value.slice A l.shows.length c0, Value.slice (some ⟨bD, oD, none⟩) l.steps.length d], Value.bool true, Value.bool false, undef, Value.agg #[Value.slice A l.shows.length c0, Value.slice (some ⟨bD, oD, none⟩) l.steps.length d], Value.slice (some ⟨b2, o2, none⟩) l.shows.length c2, Value.slice (some ⟨b2, o2, none⟩) l.shows.length c2, Value.slice A3 (repsI l).length c3, Value.agg #[Value.slice none 0 0, Value.slice none 0 0], Value.slice A3 (repsI l).length c3, Value.int IntKind.i64 ((repsI l).length : Int), Value.int IntKind.i64 ((repsI l).length : Int), Value.bool false, u25, u26, u27, u28, u29, u30, u31, u32, u33, u34, u35, u36, u37, u38, Value.pointer (some ⟨w.heap.size, 1, none⟩), Value.slice (some ⟨bD, oD, none⟩) l.steps.length d, Value.int IntKind.i64 (l.steps.length : Int), Value.int IntKind.i64 (k : Int), Value.bool true, Value.pointer (some ⟨bD, oD + k * 3, none⟩), Value.agg #[Value.int IntKind.i64 (un : Int), Value.int IntKind.i64 x.snd.fst, Value.int IntKind.i64 (zn : Int)], Value.slice A3 (repsI l).length c3, Value.pointer (some ⟨wr.heap.size, 0, none⟩), Value.int IntKind.i64 (un : Int), Value.int IntKind.i64 (pu : Int), Value.int IntKind.i64 (pu : Int), Value.bool true, bsel (L 0) (.pointer (some ⟨w3.heap.size, 1, none⟩)) (u52), bsel (L 1) (t) (u53), bsel (L 2) (.int .i64 (pu : Int)) (u54), bsel (L 3) (.pointer (some ⟨wr.heap.size, 1, none⟩)) (u55), bsel (L 4) (.int .i64 x.2.1) (u56), bsel (L 5) (.slice A3 (repsI l).length c3) (u57), bsel (L 6) (.slice (some ⟨b2, o2, none⟩) l.shows.length c2) (u58), bsel (L 7) (.pointer (some ⟨wr.heap.size, 2, none⟩)) (u59), bsel (L 8) (.int .i64 (zn : Int)) (u60), bsel (L 9) (.pointer (some ⟨b2, o2 + zn, none⟩)) (u61), bsel (L 10) (.int .i64 (kk : Int)) (u62), bsel (L 11) (.int .i64 (pk : Int)) (u63), bsel (L 12) (.agg #[.int .i64 (pu : Int), .int .i64 x.2.1, .int .i64 (pk : Int)]) (u64), bsel (L 13) (.slice (some ⟨bs, 0, none⟩) 1 1) (u65), bsel (L 14) (v) (u66), bsel (L 15) (.pointer (some ⟨w3.heap.size, 1, none⟩)) (u67), u68, undef, undef, undef, undef, undef], []⟩ ∧ (L 14 = true → L 1 = true) ∧ (L 13 = true → L 12 = true) ∧ (L 12 = true → L 4 = true) ∧ (L 12 = true → L 11 = true) ∧ (L 11 = true → L 10 = true) ∧ (L 10 = true → L 9 = true) ∧ (L 9 = true → L 8 = true) ∧ EQ3 W4 w3.heap.size w3.heap.size (.slice AU nU cU) t (quoM l (repsI l).length) qs ((pu : Int), x.2.1, (pk : Int)) (L 13) (L 14) (L 16) bs v W) ?h0 ?step ?fin
              case h0 => exact ⟨0, .bool false, rfl, fun h => absurd h Bool.false_ne_true, fun h => absurd h Bool.false_ne_true, fun h => absurd h Bool.false_ne_true, fun h => absurd h Bool.false_ne_true, fun h => absurd h Bool.false_ne_true, fun h => absurd h Bool.false_ne_true, fun h => absurd h Bool.false_ne_true, EQ3.start HT4.out HS4.out HP4.out _ _⟩
              case step =>
                intro L act W q oo hJ hL ho hd K3 hK3
                obtain ⟨bs, v, rfl, hI0, hI1, hI2, hI3, hI4, hI5, hI6, hF⟩ := hJ
                match q, ho with
                | 0, ho =>
                  simp only [List.getElem?_toArray, List.getElem?_cons_zero, List.getElem?_cons_succ, Option.some.injEq] at ho
                  subst ho
                  simp [Region.binds] at hd
                  try simp only [hd, bsel_t]
                  have HF := Lib.hid hF
                  clear hF
                  have HQI0 := Lib.hid hI0
                  clear hI0
                  have HQI1 := Lib.hid hI1
                  clear hI1
                  have HQI2 := Lib.hid hI2
                  clear hI2
                  have HQI3 := Lib.hid hI3
                  clear hI3
                  have HQI4 := Lib.hid hI4
                  clear hI4
                  have HQI5 := Lib.hid hI5
                  clear hI5
                  have HQI6 := Lib.hid hI6
                  clear hI6
                  go_simp
                  exact hK3 _ _ ⟨bs, v, by first | (simp [upd, bsel]; done) | simp [upd, bsel, hd], by simpa [upd] using HQI0.out, by simpa [upd] using HQI1.out, by simpa [upd] using HQI2.out, by simpa [upd] using HQI3.out, by simpa [upd] using HQI4.out, by simpa [upd] using HQI5.out, by simpa [upd] using HQI6.out, HF.out⟩
                | 1, ho =>
                  simp only [List.getElem?_toArray, List.getElem?_cons_zero, List.getElem?_cons_succ, Option.some.injEq] at ho
                  subst ho
                  simp [Region.binds] at hd
                  have hz0 : L 14 = false := by
                    cases e : L 14
                    · rfl
                    · exact absurd (hI0 e) (by simp [hL])
                  have s0 := cell_of_row W _ 1 _ _ _ (hF.hP (Bool.eq_false_iff.2 fun e => absurd (hF.o3 e) (by simp [hz0])))
                  try simp only [hd, bsel_t]
                  have HF := Lib.hid hF
                  clear hF
                  have HQI0 := Lib.hid hI0
                  clear hI0
                  have HQI1 := Lib.hid hI1
                  clear hI1
                  have HQI2 := Lib.hid hI2
                  clear hI2
                  have HQI3 := Lib.hid hI3
                  clear hI3
                  have HQI4 := Lib.hid hI4
                  clear hI4
                  have HQI5 := Lib.hid hI5
                  clear hI5
                  have HQI6 := Lib.hid hI6
                  clear hI6
                  go_simp
                  exact hK3 _ _ ⟨bs, v, by simp [upd, bsel, hd, hz0], by simp [upd], by simpa [upd] using HQI1.out, by simpa [upd] using HQI2.out, by simpa [upd] using HQI3.out, by simpa [upd] using HQI4.out, by simpa [upd] using HQI5.out, by simpa [upd] using HQI6.out, HF.out⟩
                | 2, ho =>
                  simp only [List.getElem?_toArray, List.getElem?_cons_zero, List.getElem?_cons_succ, Option.some.injEq] at ho
                  subst ho
                  simp [Region.binds] at hd
                  try simp only [hd, bsel_t]
                  have HF := Lib.hid hF
                  clear hF
                  have HQI0 := Lib.hid hI0
                  clear hI0
                  have HQI1 := Lib.hid hI1
                  clear hI1
                  have HQI2 := Lib.hid hI2
                  clear hI2
                  have HQI3 := Lib.hid hI3
                  clear hI3
                  have HQI4 := Lib.hid hI4
                  clear hI4
                  have HQI5 := Lib.hid hI5
                  clear hI5
                  have HQI6 := Lib.hid hI6
                  clear hI6
                  go_simp
                  exact hK3 _ _ ⟨bs, v, by first | (simp [upd, bsel]; done) | simp [upd, bsel, hd], by simpa [upd] using HQI0.out, by simpa [upd] using HQI1.out, by simpa [upd] using HQI2.out, by simpa [upd] using HQI3.out, by simpa [upd] using HQI4.out, by simpa [upd] using HQI5.out, by simpa [upd] using HQI6.out, HF.out⟩
                | 3, ho =>
                  simp only [List.getElem?_toArray, List.getElem?_cons_zero, List.getElem?_cons_succ, Option.some.injEq] at ho
                  subst ho
                  simp [Region.binds] at hd
                  try simp only [hd, bsel_t]
                  have HF := Lib.hid hF
                  clear hF
                  have HQI0 := Lib.hid hI0
                  clear hI0
                  have HQI1 := Lib.hid hI1
                  clear hI1
                  have HQI2 := Lib.hid hI2
                  clear hI2
                  have HQI3 := Lib.hid hI3
                  clear hI3
                  have HQI4 := Lib.hid hI4
                  clear hI4
                  have HQI5 := Lib.hid hI5
                  clear hI5
                  have HQI6 := Lib.hid hI6
                  clear hI6
                  go_simp
                  exact hK3 _ _ ⟨bs, v, by first | (simp [upd, bsel]; done) | simp [upd, bsel, hd], by simpa [upd] using HQI0.out, by simpa [upd] using HQI1.out, by simpa [upd] using HQI2.out, by simpa [upd] using HQI3.out, by simpa [upd] using HQI4.out, by simpa [upd] using HQI5.out, by simpa [upd] using HQI6.out, HF.out⟩
                | 4, ho =>
                  simp only [List.getElem?_toArray, List.getElem?_cons_zero, List.getElem?_cons_succ, Option.some.injEq] at ho
                  subst ho
                  simp [Region.binds] at hd
                  have hz2 : L 12 = false := by
                    cases e : L 12
                    · rfl
                    · exact absurd (hI2 e) (by simp [hL])
                  obtain ⟨g0, g1, g2⟩ := HBX.out W (hF.zz (Bool.eq_false_iff.2 fun e => absurd (hI2 (hI1 (hF.o2 e))) (by simp [hL])))
                  try simp only [hd, bsel_t]
                  have HF := Lib.hid hF
                  clear hF
                  have HQI0 := Lib.hid hI0
                  clear hI0
                  have HQI1 := Lib.hid hI1
                  clear hI1
                  have HQI2 := Lib.hid hI2
                  clear hI2
                  have HQI3 := Lib.hid hI3
                  clear hI3
                  have HQI4 := Lib.hid hI4
                  clear hI4
                  have HQI5 := Lib.hid hI5
                  clear hI5
                  have HQI6 := Lib.hid hI6
                  clear hI6
                  go_simp
                  exact hK3 _ _ ⟨bs, v, by simp [upd, bsel, hd, hz2], by simpa [upd] using HQI0.out, by simpa [upd] using HQI1.out, by simp [upd], by simpa [upd] using HQI3.out, by simpa [upd] using HQI4.out, by simpa [upd] using HQI5.out, by simpa [upd] using HQI6.out, HF.out⟩
                | 5, ho =>
                  simp only [List.getElem?_toArray, List.getElem?_cons_zero, List.getElem?_cons_succ, Option.some.injEq] at ho
                  subst ho
                  simp [Region.binds] at hd
                  try simp only [hd, bsel_t]
                  have HF := Lib.hid hF
                  clear hF
                  have HQI0 := Lib.hid hI0
                  clear hI0
                  have HQI1 := Lib.hid hI1
                  clear hI1
                  have HQI2 := Lib.hid hI2
                  clear hI2
                  have HQI3 := Lib.hid hI3
                  clear hI3
                  have HQI4 := Lib.hid hI4
                  clear hI4
                  have HQI5 := Lib.hid hI5
                  clear hI5
                  have HQI6 := Lib.hid hI6
                  clear hI6
                  go_simp
                  exact hK3 _ _ ⟨bs, v, by first | (simp [upd, bsel]; done) | simp [upd, bsel, hd], by simpa [upd] using HQI0.out, by simpa [upd] using HQI1.out, by simpa [upd] using HQI2.out, by simpa [upd] using HQI3.out, by simpa [upd] using HQI4.out, by simpa [upd] using HQI5.out, by simpa [upd] using HQI6.out, HF.out⟩
                | 6, ho =>
                  simp only [List.getElem?_toArray, List.getElem?_cons_zero, List.getElem?_cons_succ, Option.some.injEq] at ho
                  subst ho
                  simp [Region.binds] at hd
                  try simp only [hd, bsel_t]
                  have HF := Lib.hid hF
                  clear hF
                  have HQI0 := Lib.hid hI0
                  clear hI0
                  have HQI1 := Lib.hid hI1
                  clear hI1
                  have HQI2 := Lib.hid hI2
                  clear hI2
                  have HQI3 := Lib.hid hI3
                  clear hI3
                  have HQI4 := Lib.hid hI4
                  clear hI4
                  have HQI5 := Lib.hid hI5
                  clear hI5
                  have HQI6 := Lib.hid hI6
                  clear hI6
                  go_simp
                  exact hK3 _ _ ⟨bs, v, by first | (simp [upd, bsel]; done) | simp [upd, bsel, hd], by simpa [upd] using HQI0.out, by simpa [upd] using HQI1.out, by simpa [upd] using HQI2.out, by simpa [upd] using HQI3.out, by simpa [upd] using HQI4.out, by simpa [upd] using HQI5.out, by simpa [upd] using HQI6.out, HF.out⟩
                | 7, ho =>
                  simp only [List.getElem?_toArray, List.getElem?_cons_zero, List.getElem?_cons_succ, Option.some.injEq] at ho
                  subst ho
                  simp [Region.binds] at hd
                  try simp only [hd, bsel_t]
                  have HF := Lib.hid hF
                  clear hF
                  have HQI0 := Lib.hid hI0
                  clear hI0
                  have HQI1 := Lib.hid hI1
                  clear hI1
                  have HQI2 := Lib.hid hI2
                  clear hI2
                  have HQI3 := Lib.hid hI3
                  clear hI3
                  have HQI4 := Lib.hid hI4
                  clear hI4
                  have HQI5 := Lib.hid hI5
                  clear hI5
                  have HQI6 := Lib.hid hI6
                  clear hI6
                  go_simp
                  exact hK3 _ _ ⟨bs, v, by first | (simp [upd, bsel]; done) | simp [upd, bsel, hd], by simpa [upd] using HQI0.out, by simpa [upd] using HQI1.out, by simpa [upd] using HQI2.out, by simpa [upd] using HQI3.out, by simpa [upd] using HQI4.out, by simpa [upd] using HQI5.out, by simpa [upd] using HQI6.out, HF.out⟩
                | 8, ho =>
                  simp only [List.getElem?_toArray, List.getElem?_cons_zero, List.getElem?_cons_succ, Option.some.injEq] at ho
                  subst ho
                  simp [Region.binds] at hd
                  have hz6 : L 9 = false := by
                    cases e : L 9
                    · rfl
                    · exact absurd (hI6 e) (by simp [hL])
                  obtain ⟨g0, g1, g2⟩ := HBX.out W (hF.zz (Bool.eq_false_iff.2 fun e => absurd (hI6 (hI5 (hI4 (hI3 (hI1 (hF.o2 e)))))) (by simp [hL])))
                  try simp only [hd, bsel_t]
                  have HF := Lib.hid hF
                  clear hF
                  have HQI0 := Lib.hid hI0
                  clear hI0
                  have HQI1 := Lib.hid hI1
                  clear hI1
                  have HQI2 := Lib.hid hI2
                  clear hI2
                  have HQI3 := Lib.hid hI3
                  clear hI3
                  have HQI4 := Lib.hid hI4
                  clear hI4
                  have HQI5 := Lib.hid hI5
                  clear hI5
                  have HQI6 := Lib.hid hI6
                  clear hI6
                  go_simp
                  exact hK3 _ _ ⟨bs, v, by simp [upd, bsel, hd, hz6], by simpa [upd] using HQI0.out, by simpa [upd] using HQI1.out, by simpa [upd] using HQI2.out, by simpa [upd] using HQI3.out, by simpa [upd] using HQI4.out, by simpa [upd] using HQI5.out, by simp [upd], HF.out⟩
                | 9, ho =>
                  simp only [List.getElem?_toArray, List.getElem?_cons_zero, List.getElem?_cons_succ, Option.some.injEq] at ho
                  subst ho
                  simp [Region.binds] at hd
                  have hz5 : L 10 = false := by
                    cases e : L 10
                    · rfl
                    · exact absurd (hI5 e) (by simp [hL])
                  try simp only [hd, bsel_t]
                  have HF := Lib.hid hF
                  clear hF
                  have HQI0 := Lib.hid hI0
                  clear hI0
                  have HQI1 := Lib.hid hI1
                  clear hI1
                  have HQI2 := Lib.hid hI2
                  clear hI2
                  have HQI3 := Lib.hid hI3
                  clear hI3
                  have HQI4 := Lib.hid hI4
                  clear hI4
                  have HQI5 := Lib.hid hI5
                  clear hI5
                  have HQI6 := Lib.hid hI6
                  clear hI6
                  go_simp
                  exact hK3 _ _ ⟨bs, v, by simp [upd, bsel, hd, hz5], by simpa [upd] using HQI0.out, by simpa [upd] using HQI1.out, by simpa [upd] using HQI2.out, by simpa [upd] using HQI3.out, by simpa [upd] using HQI4.out, by simp [upd], by simp [upd, hd], HF.out⟩
                | 10, ho =>
                  simp only [List.getElem?_toArray, List.getElem?_cons_zero, List.getElem?_cons_succ, Option.some.injEq] at ho
                  subst ho
                  simp [Region.binds] at hd
                  have hz4 : L 11 = false := by
                    cases e : L 11
                    · rfl
                    · exact absurd (hI4 e) (by simp [hL])
                  have hpz := HPZ.out W (HBE4.out.trans hF.z)
                  try simp only [hd, bsel_t]
                  have HF := Lib.hid hF
                  clear hF
                  have HQI0 := Lib.hid hI0
                  clear hI0
                  have HQI1 := Lib.hid hI1
                  clear hI1
                  have HQI2 := Lib.hid hI2
                  clear hI2
                  have HQI3 := Lib.hid hI3
                  clear hI3
                  have HQI4 := Lib.hid hI4
                  clear hI4
                  have HQI5 := Lib.hid hI5
                  clear hI5
                  have HQI6 := Lib.hid hI6
                  clear hI6
                  go_simp
                  exact hK3 _ _ ⟨bs, v, by simp [upd, bsel, hd, hz4], by simpa [upd] using HQI0.out, by simpa [upd] using HQI1.out, by simpa [upd] using HQI2.out, by simpa [upd] using HQI3.out, by simp [upd], by simp [upd, hd], by simpa [upd] using HQI6.out, HF.out⟩
                | 11, ho =>
                  simp only [List.getElem?_toArray, List.getElem?_cons_zero, List.getElem?_cons_succ, Option.some.injEq] at ho
                  subst ho
                  simp [Region.binds] at hd
                  have hz3 : L 12 = false := by
                    cases e : L 12
                    · rfl
                    · exact absurd (hI3 e) (by simp [hL])
                  simp only [hd, bsel_t]
                  have HF := Lib.hid hF
                  clear hF
                  have HQI0 := Lib.hid hI0
                  clear hI0
                  have HQI1 := Lib.hid hI1
                  clear hI1
                  have HQI2 := Lib.hid hI2
                  clear hI2
                  have HQI3 := Lib.hid hI3
                  clear hI3
                  have HQI4 := Lib.hid hI4
                  clear hI4
                  have HQI5 := Lib.hid hI5
                  clear hI5
                  have HQI6 := Lib.hid hI6
                  clear hI6
                  go_simp
                  go_at_call 88
                  (with_reducible refine (HI5.out W (HBE4.out.trans HF.out.z)).mono ?_)
                  rintro e W' ⟨rfl, rfl⟩
                  go_simp
                  exact hK3 _ _ ⟨bs, v, by simp [upd, bsel, hd, hz3], by simpa [upd] using HQI0.out, by simpa [upd] using HQI1.out, by simpa [upd] using HQI2.out, by simp [upd], by simp [upd, hd], by simpa [upd] using HQI5.out, by simpa [upd] using HQI6.out, by simpa [upd, hd] using HF.out⟩
                | 12, ho =>
                  simp only [List.getElem?_toArray, List.getElem?_cons_zero, List.getElem?_cons_succ, Option.some.injEq] at ho
                  subst ho
                  simp [Region.binds] at hd
                  have hz1 : L 13 = false := by
                    cases e : L 13
                    · rfl
                    · exact absurd (hI1 e) (by simp [hL])
                  try simp only [hd, bsel_t]
                  have HF := Lib.hid hF
                  clear hF
                  have HQI0 := Lib.hid hI0
                  clear hI0
                  have HQI1 := Lib.hid hI1
                  clear hI1
                  have HQI2 := Lib.hid hI2
                  clear hI2
                  have HQI3 := Lib.hid hI3
                  clear hI3
                  have HQI4 := Lib.hid hI4
                  clear hI4
                  have HQI5 := Lib.hid hI5
                  clear hI5
                  have HQI6 := Lib.hid hI6
                  clear hI6
                  go_simp
                  exact hK3 _ _ ⟨bs, v, by simp [upd, bsel, hd, hz1], by simpa [upd] using HQI0.out, by simp [upd], by simp [upd, hd], by simp [upd, hd], by simpa [upd] using HQI4.out, by simpa [upd] using HQI5.out, by simpa [upd] using HQI6.out, HF.out⟩
                | 13, ho =>
                  simp only [List.getElem?_toArray, List.getElem?_cons_zero, List.getElem?_cons_succ, Option.some.injEq] at ho
                  subst ho
                  simp [Region.binds] at hd
                  rw [hL] at hF
                  simp only [hd, bsel_t]
                  have HF := Lib.hid (hF.build hs4)
                  clear hF
                  have HQI0 := Lib.hid hI0
                  clear hI0
                  have HQI1 := Lib.hid hI1
                  clear hI1
                  have HQI2 := Lib.hid hI2
                  clear hI2
                  have HQI3 := Lib.hid hI3
                  clear hI3
                  have HQI4 := Lib.hid hI4
                  clear hI4
                  have HQI5 := Lib.hid hI5
                  clear hI5
                  have HQI6 := Lib.hid hI6
                  clear hI6
                  go_simp
                  exact hK3 _ _ ⟨W.heap.size, v, by simp [upd, bsel, hd], by simpa [upd] using HQI0.out, by simp [upd, hd], by simpa [upd] using HQI2.out, by simpa [upd] using HQI3.out, by simpa [upd] using HQI4.out, by simpa [upd] using HQI5.out, by simpa [upd] using HQI6.out, by simpa [upd, hd] using HF.out⟩
                | 14, ho =>
                  simp only [List.getElem?_toArray, List.getElem?_cons_zero, List.getElem?_cons_succ, Option.some.injEq] at ho
                  subst ho
                  simp [Region.binds] at hd
                  have d13 : L 13 = true := by simp [hd]
                  rw [d13, hL] at hF
                  simp only [hd, bsel_t]
                  have HF := Lib.hid hF
                  clear hF
                  refine step_appG el_a3 rfl (.tmp 53) (.tmp 65) rfl w3.heap.size t qs.length (qs.flatMap tri) (by rfl) (HF.out.h1 rfl) ⟨bs, 0, none⟩ 1 1 (tri ((pu : Int), x.2.1, (pk : Int))) (by rfl) rfl (fun j' u' hj' => by match j', hj' with | 0, hj' | 1, hj' | 2, hj' => (simp [tri] at hj'; subst hj'; exact cell_of_row W bs _ _ _ _ (HF.out.h13 rfl rfl))) (by intro u' hu'; simp [tri] at hu'; rcases hu' with rfl | rfl | rfl <;> rfl) (by unfold maxLen; omega) (by omega) (Nat.le_trans hs4 HF.out.z.size) ?_
                  intro v' W' ho hg
                  have HF := Lib.hid (HF.out.app hs4 ho hg)
                  clear ho hg
                  have HQI0 := Lib.hid hI0
                  clear hI0
                  have HQI1 := Lib.hid hI1
                  clear hI1
                  have HQI2 := Lib.hid hI2
                  clear hI2
                  have HQI3 := Lib.hid hI3
                  clear hI3
                  have HQI4 := Lib.hid hI4
                  clear hI4
                  have HQI5 := Lib.hid hI5
                  clear hI5
                  have HQI6 := Lib.hid hI6
                  clear hI6
                  go_simp
                  exact hK3 _ _ ⟨bs, v', by simp [upd, bsel, hd], by simp [upd, hd], by simpa [upd] using HQI1.out, by simpa [upd] using HQI2.out, by simpa [upd] using HQI3.out, by simpa [upd] using HQI4.out, by simpa [upd] using HQI5.out, by simpa [upd] using HQI6.out, by simpa [upd, hd] using HF.out⟩
                | 15, ho =>
                  simp only [List.getElem?_toArray, List.getElem?_cons_zero, List.getElem?_cons_succ, Option.some.injEq] at ho
                  subst ho
                  simp [Region.binds] at hd
                  try simp only [hd, bsel_t]
                  have HF := Lib.hid hF
                  clear hF
                  have HQI0 := Lib.hid hI0
                  clear hI0
                  have HQI1 := Lib.hid hI1
                  clear hI1
                  have HQI2 := Lib.hid hI2
                  clear hI2
                  have HQI3 := Lib.hid hI3
                  clear hI3
                  have HQI4 := Lib.hid hI4
                  clear hI4
                  have HQI5 := Lib.hid hI5
                  clear hI5
                  have HQI6 := Lib.hid hI6
                  clear hI6
                  go_simp
                  exact hK3 _ _ ⟨bs, v, by first | (simp [upd, bsel]; done) | simp [upd, bsel, hd], by simpa [upd] using HQI0.out, by simpa [upd] using HQI1.out, by simpa [upd] using HQI2.out, by simpa [upd] using HQI3.out, by simpa [upd] using HQI4.out, by simpa [upd] using HQI5.out, by simpa [upd] using HQI6.out, HF.out⟩
                | 16, ho =>
                  simp only [List.getElem?_toArray, List.getElem?_cons_zero, List.getElem?_cons_succ, Option.some.injEq] at ho
                  subst ho
                  simp [Region.binds] at hd
                  have d14 : L 14 = true := by simp [hd]
                  rw [d14, hL] at hF
                  obtain ⟨Av, nv, cv, rfl⟩ : ∃ Av nv cv, v = .slice Av nv cv := by
                    obtain ⟨Av, cv, e, _⟩ := owns_form (hF.h14 rfl)
                    exact ⟨Av, _, cv, e⟩
                  have s0 := cell_of_row W _ 1 _ _ _ (hF.hP rfl)
                  have s1 := frozen_of_row W _ 1 _ _ (hF.hP rfl)
                  simp only [hd, bsel_t]
                  have HF := Lib.hid (hF.store (Nat.le_refl _))
                  clear hF
                  have HQI0 := Lib.hid hI0
                  clear hI0
                  have HQI1 := Lib.hid hI1
                  clear hI1
                  have HQI2 := Lib.hid hI2
                  clear hI2
                  have HQI3 := Lib.hid hI3
                  clear hI3
                  have HQI4 := Lib.hid hI4
                  clear hI4
                  have HQI5 := Lib.hid hI5
                  clear hI5
                  have HQI6 := Lib.hid hI6
                  clear hI6
                  go_simp
                  exact hK3 _ _ ⟨bs, .slice Av nv cv, by simp [upd, bsel, hd], by simpa [upd] using HQI0.out, by simpa [upd] using HQI1.out, by simpa [upd] using HQI2.out, by simpa [upd] using HQI3.out, by simpa [upd] using HQI4.out, by simpa [upd] using HQI5.out, by simpa [upd] using HQI6.out, by simpa [upd, hd] using HF.out⟩
                | q + 17, ho => simp at ho
              case fin =>
                intro L act W hJ hfin
                obtain ⟨bs, v, rfl, hI0, hI1, hI2, hI3, hI4, hI5, hI6, hF⟩ := hJ
                have l0 : L 0 = true := by
                  cases e : L 0
                  · have x := hfin 0 _ rfl e
                    simp [Region.binds] at x
                  · rfl
                have l1 : L 1 = true := by
                  cases e : L 1
                  · have x := hfin 1 _ rfl e
                    simp [Region.binds, l0] at x
                  · rfl
                have l2 : L 2 = true := by
                  cases e : L 2
                  · have x := hfin 2 _ rfl e
                    simp [Region.binds, l0, l1] at x
                  · rfl
                have l3 : L 3 = true := by
                  cases e : L 3
                  · have x := hfin 3 _ rfl e
                    simp [Region.binds, l0, l1, l2] at x
                  · rfl
                have l4 : L 4 = true := by
                  cases e : L 4
                  · have x := hfin 4 _ rfl e
                    simp [Region.binds, l0, l1, l2, l3] at x
                  · rfl
                have l5 : L 5 = true := by
                  cases e : L 5
                  · have x := hfin 5 _ rfl e
                    simp [Region.binds, l0, l1, l2, l3, l4] at x
                  · rfl
                have l6 : L 6 = true := by
                  cases e : L 6
                  · have x := hfin 6 _ rfl e
                    simp [Region.binds, l0, l1, l2, l3, l4, l5] at x
                  · rfl
                have l7 : L 7 = true := by
                  cases e : L 7
                  · have x := hfin 7 _ rfl e
                    simp [Region.binds, l0, l1, l2, l3, l4, l5, l6] at x
                  · rfl
                have l8 : L 8 = true := by
                  cases e : L 8
                  · have x := hfin 8 _ rfl e
                    simp [Region.binds, l0, l1, l2, l3, l4, l5, l6, l7] at x
                  · rfl
                have l9 : L 9 = true := by
                  cases e : L 9
                  · have x := hfin 9 _ rfl e
                    simp [Region.binds, l0, l1, l2, l3, l4, l5, l6, l7, l8] at x
                  · rfl
                have l10 : L 10 = true := by
                  cases e : L 10
                  · have x := hfin 10 _ rfl e
                    simp [Region.binds, l0, l1, l2, l3, l4, l5, l6, l7, l8, l9] at x
                  · rfl
                have l11 : L 11 = true := by
                  cases e : L 11
                  · have x := hfin 11 _ rfl e
                    simp [Region.binds, l0, l1, l2, l3, l4, l5, l6, l7, l8, l9, l10] at x
                  · rfl
                have l12 : L 12 = true := by
                  cases e : L 12
                  · have x := hfin 12 _ rfl e
                    simp [Region.binds, l0, l1, l2, l3, l4, l5, l6, l7, l8, l9, l10, l11] at x
                  · rfl
                have l13 : L 13 = true := by
                  cases e : L 13
                  · have x := hfin 13 _ rfl e
                    simp [Region.binds, l0, l1, l2, l3, l4, l5, l6, l7, l8, l9, l10, l11, l12] at x
                  · rfl
                have l14 : L 14 = true := by
                  cases e : L 14
                  · have x := hfin 14 _ rfl e
                    simp [Region.binds, l0, l1, l2, l3, l4, l5, l6, l7, l8, l9, l10, l11, l12, l13] at x
                  · rfl
                have l15 : L 15 = true := by
                  cases e : L 15
                  · have x := hfin 15 _ rfl e
                    simp [Region.binds, l0, l1, l2, l3, l4, l5, l6, l7, l8, l9, l10, l11, l12, l13, l14] at x
                  · rfl
                have l16 : L 16 = true := by
                  cases e : L 16
                  · have x := hfin 16 _ rfl e
                    simp [Region.binds, l0, l1, l2, l3, l4, l5, l6, l7, l8, l9, l10, l11, l12, l13, l14, l15] at x
                  · rfl
                simp only [l0, l1, l2, l3, l4, l5, l6, l7, l8, l9, l10, l11, l12, l13, l14, l15, l16, bsel_t]
                have hQ := hF.hQ l16
                have h14 : W.ownsRow w3.heap.size 103 3 v (qs ++ [((pu : Int), x.2.1, (pk : Int))]).length ((qs ++ [((pu : Int), x.2.1, (pk : Int))]).flatMap tri) := by
                  rw [List.length_append, List.flatMap_append]
                  simpa using hF.h14 l14
                have HR := Lib.hid (show _ ∧ _ ∧ _ ∧ _ from ⟨hQ, hF.T, h14, HBE4.out.trans hF.z⟩)
                clear hF hfin hI0 hI1 hI2 hI3 hI4 hI5 hI6 hQ h14 l0 l1 l2 l3 l4 l5 l6 l7 l8 l9 l10 l11 l12 l13 l14 l15 l16
                go_wp2_with fail
                go_roundw
                case rel => exact ⟨k + 1, _, by omega, by go_num, HR.out.1, HR.out.2.1, by rw [HN.out]; exact HR.out.2.2.1, HR.out.2.2.2⟩
                case measure => simp [intOf]; omega
          · obtain rfl : k = l.steps.length := by omega
            rw [List.take_length] at hS
            obtain ⟨At, ct, rfl, hS⟩ := owns_form hS
            have hqn : (quoS l l.steps).length ≤ l.steps.length := by have := HQL.out l.steps.length; rw [List.take_length] at this; exact this
            have HSO := Lib.hid (sortedSteps_any (.slice At (quoS l l.steps).length ct) (quoS l l.steps) wr (by omega) ⟨At, ct, rfl, by unfold maxLen; omega, Cells.of_owns hS⟩)
            have s0 := cell_of_row wr _ 1 _ _ _ hP
            clear hP hT hS hbel hr
            go_wp2_with fail
            (with_reducible refine HSO.out.mono ?_)
            rintro e w7 ⟨r7, rfl, hr7, hb7⟩
            obtain ⟨A7, c7, rfl, hr7⟩ := owns_form hr7
            have hP7 := (hb7.block _ (Array.getElem?_eq_some_iff.1 HPP.out).1).trans HPP.out
            have hT7 := HTT.out.below hb7 (Nat.le_refl _)
            have hB7 := HBR.out.trans (hb7.mono hsbr)
            have hr7' := owns_mono hr7 hsr
            have s1 := cell_of_row w7 _ 1 _ _ _ hP7
            have s2 := frozen_of_row w7 _ 1 _ _ hP7
            have hk : ∀ k, k < w7.heap.size → k ≠ w3.heap.size → (w7.setCell ⟨w3.heap.size, 1, none⟩ (.slice A7 (sortT (quoS l l.steps)).length c7)).heap[k]? = w7.heap[k]? := fun k _ h2 => heap_setCell_other _ _ _ _ h2
            have hP8 := heap_setCell_same w7 w3.heap.size 1 _ _ (.slice A7 (sortT (quoS l l.steps)).length c7) hP7
            have hT8 := hT7.but hk hP7 (by decide) (by decide)
            have hS8 := owns_but hr7' hk hP7 (by decide)
            have hB8 := hB7.setCell (p := ⟨w3.heap.size, 1, none⟩) hs3 (.slice A7 (sortT (quoS l l.steps)).length c7)
            have hO8 := (hT8.lab hS8).wide (T := fun b => W0.heap.size ≤ b ∧ b < (w7.setCell ⟨w3.heap.size, 1, none⟩ (.slice A7 (sortT (quoS l l.steps)).length c7)).heap.size) (fun q hq => ⟨Nat.le_trans hs3 hq.1, hq.2⟩)
            rw [quoM_all] at hO8
            have HFX := Lib.hid (HFIN.out _ _ _ _ hB8 (show OwnLab _ _ _ (quoL l) from hO8))
            obtain ⟨t0, t1, _, _⟩ := box_two hP8
            obtain ⟨r0, r1, r2, r3⟩ := box_two (HX.out _ hB8).2
            clear hr7 hb7 hP7 hT7 hB7 hr7' hk hP8 hT8 hS8 hB8 hO8 s0 x0 x1
            go_wp2_with fail
            obtain ⟨f1, f2, k0, k1⟩ := HFX.out
            exact bodyPost_ret (v := .tuple #[.agg #[.slice AU nU cU, .slice A7 (sortT (quoS l l.steps)).length c7], .bool true]) (by simp [results, Tryz.results36, go_sem, *]) rfl ⟨_, rfl, by rw [HRX.out]; exact f1, f2⟩

end Go.Proofs.YtdgnhfhaaghoaaaGreatDoor
