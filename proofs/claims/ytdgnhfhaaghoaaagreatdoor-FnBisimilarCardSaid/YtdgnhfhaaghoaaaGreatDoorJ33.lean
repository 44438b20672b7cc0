/- Labelled systems: whether a number is a state, and IsSimulated of the reference: walked. Which states satisfy a formula: reference walked. What the formula of TellApart tells: the first state satisfies it, the second does not, and their parts differ. Plain law. Two well-formed labelled systems side by side are one; what the law of quotients asks. Plain law. A labelled system in a box, as the laws keep them; what stays of it. The laws' own helpers over lists of numbers: vInts, vHas, vBig. The draws of one labelled system. -/
import Derived.Test.YtdgnhfhaaghoaaaGreatDoorProg
import Derived.Test.YtdgnhfhaaghoaaaGreatDoorJ32
import Derived.Test.YtdgnhfhaaghoaaaGreatDoorJ23
import Derived.Test.YtdgnhfhaaghoaaaGreatDoorJ27
import Derived.Test.YtdgnhfhaaghoaaaGreatDoorJ25
import Derived.Test.YtdgnhfhaaghoaaaGreatDoorJ13
import Derived.Test.YtdgnhfhaaghoaaaGreatDoorJ28
import Derived.Test.YtdgnhfhaaghoaaaGreatDoorJ21
import Derived.Test.YtdgnhfhaaghoaaaGreatDoorJ7
import Derived.Test.YtdgnhfhaaghoaaaGreatDoorJ30
import Derived.Test.YtdgnhfhaaghoaaaGreatDoorJ26
import Derived.Test.YtdgnhfhaaghoaaaGreatDoorJ14
import Derived.Test.YtdgnhfhaaghoaaaGreatDoorJ15
import Derived.Test.YtdgnhfhaaghoaaaGreatDoorJ2
import Derived.Test.YtdgnhfhaaghoaaaGreatDoorJ0
import Derived.Deep.CutBlock
set_option linter.unusedSimpArgs false
set_option linter.unusedVariables false
namespace Go.Proofs.YtdgnhfhaaghoaaaGreatDoor
open Go.RowKit

def stB (l : Lab) (s : Int) : Bool := inB s 0 ((l.shows.length : Int) - 1)
theorem stB_true {l : Lab} {s : Int} (h : stB l s = true) : ∃ i : Nat, s = (i : Int) ∧ i < l.shows.length := by
  have := inB_true h
  exact ⟨s.toNat, by omega, by omega⟩

set_option maxHeartbeats 400000 in
theorem isStateL_any (v : Value) (l : Lab) (s : Int) (w : World) (hs : SmallLab l) (hv : RLab w v l) :
    Calls Tryz.prog 54 #[v, .int .i64 s] w fun e w' => e = .returned (.bool (stB l s)) ∧ Below w.heap.size w w' := by
  have hb1 : ∀ o, Below w.heap.size w (w.alloc o) := fun o => (Below.refl _ _).alloc (Nat.le_refl _) o
  have H2 := Lib.hid (fun n lo hi W => within_any n lo hi W)
  obtain ⟨sv, tv, rfl, hsv, htv⟩ := hv
  obtain ⟨A, c, vs, rfl, hm, _, _, _⟩ := hsv
  have hs1 := hs.1
  have HB1 := Lib.hid hb1
  clear hb1 htv
  go_enter Tryz.func54, Tryz.ntmps54
  go_wp2_with fail
  refine (H2.out _ _ _ _).mono ?_
  rintro e w2 ⟨rfl, rfl⟩
  go_wp2_with fail
  go_ret
  exact ⟨rfl, HB1.out _⟩

def okST (l : Lab) (s t : Int) : Bool := (goodLab l && stB l s) && stB l t
/-- What IsSimulated tells: b is whether s is simulated by t. -/
def SimSaid (l : Lab) (s t : Int) (b : Bool) : Prop := (okST l s t = false ∧ b = false) ∨ (okST l s t = true ∧ ∃ r, SimR l.shows.length l.steps (initI l) r ∧ SimStable l.steps r ∧ b = r s t)
theorem simSaid_one {l : Lab} {s t : Int} {b c : Bool} (hb : SimSaid l s t b) (hc : SimSaid l s t c) : b = c := by
  rcases hb with ⟨h1, rfl⟩ | ⟨h1, r, r1, r2, rfl⟩
  · rcases hc with ⟨_, rfl⟩ | ⟨h2, _⟩
    · rfl
    · rw [h1] at h2; cases h2
  · rcases hc with ⟨h2, rfl⟩ | ⟨_, q, q1, q2, rfl⟩
    · rw [h1] at h2; cases h2
    · exact sim_unique r1 r2 q1 q2 s t

set_option maxRecDepth 100000 in
set_option maxHeartbeats 4000000 in
theorem specIsSimulated_any (v : Value) (l : Lab) (s t : Int) (w : World) (hs : SmallLab l) (hv : RLab w v l) :
    Calls Tryz.prog 52 #[v, .int .i64 s, .int .i64 t] w fun e w' => ∃ b, e = .returned (.tuple #[.bool b, .bool (okST l s t)]) ∧ SimSaid l s t b ∧ Below w.heap.size w w' := by
  have HV := Lib.hid (show ∀ W, Below w.heap.size w W → RLab W v l from fun W hb => hv.below hb)
  have HS := Lib.hid hs
  have hs1 := hs.1
  have hal : ∀ o, Below w.heap.size w (w.alloc o) := fun o => (Below.refl _ _).alloc (Nat.le_refl _) o
  have H := Lib.hid (fun W s (hW : Below w.heap.size w W) => l11State_any v l s W HS.out (HV.out W hW))
  have HSIM := Lib.hid (fun W (hg : goodLab l = true) (hW : Below w.heap.size w W) => l11Simulated_any v l W HS.out hg (HV.out W hW))
  obtain ⟨sv, tv, rfl, hsv, htv⟩ := hv
  obtain ⟨A, c, vs, rfl, hm, _, _, _⟩ := hsv
  obtain ⟨D, d, rfl, _, _⟩ := htv
  have HB := Lib.hid (hal (.cells #[.slice A l.shows.length c, .slice D l.steps.length d] 27))
  have HN := Lib.hid (show okST l s t = false → SimSaid l s t false from fun h => .inl ⟨h, rfl⟩)
  clear hal hs
  cases h1 : (goodLab l && inB s 0 ((l.shows.length : Int) - 1))
  · have hok : okST l s t = false := by unfold okST stB; rw [h1]; rfl
    have HOK := Lib.hid hok
    rw [hok]
    have H1 := Lib.hid (H.out _ s HB.out)
    rw [h1] at H1
    go_enter Tryz.func52, Tryz.ntmps52
    go_wp2_with fail
    refine H1.out.mono ?_
    rintro e w1 ⟨rfl, hb1⟩
    have HZ := Lib.hid (HB.out.trans (hb1.mono HB.out.size))
    clear hb1
    go_wp2_with fail
    go_ret2
    exact ⟨false, rfl, HN.out HOK.out, HZ.out⟩
  · have H1 := Lib.hid (H.out _ s HB.out)
    rw [h1] at H1
    have hg : goodLab l = true := by rw [Bool.and_eq_true] at h1; exact h1.1
    have hst : stB l s = true := by rw [Bool.and_eq_true] at h1; exact h1.2
    cases h2 : stB l t
    · have hok : okST l s t = false := by unfold okST; rw [h2, Bool.and_false]
      have HOK := Lib.hid hok
      rw [hok]
      have h2b : inB t 0 ((l.shows.length : Int) - 1) = false := h2
      have h2' : (goodLab l && inB t 0 ((l.shows.length : Int) - 1)) = false := by rw [h2b, Bool.and_false]
      have H2 := Lib.hid (fun W (hW : Below w.heap.size w W) => H.out W t hW)
      rw [h2'] at H2
      clear h2' h2b
      go_enter Tryz.func52, Tryz.ntmps52
      go_wp2_with fail
      refine H1.out.mono ?_
      rintro e w1 ⟨rfl, hb1⟩
      obtain ⟨bx, _⟩ := one_box hb1
      have x0 : w1.cell? ⟨w.heap.size, 0, none⟩ = some (.slice A l.shows.length c) := cell_of_row _ _ _ _ _ _ bx
      have x1 : w1.cell? ⟨w.heap.size, 1, none⟩ = some (.slice D l.steps.length d) := cell_of_row _ _ _ _ _ _ bx
      have HZ := Lib.hid (HB.out.trans (hb1.mono HB.out.size))
      clear hb1 bx
      go_wp2_with fail
      refine (H2.out _ HZ.out).mono ?_
      rintro e w2 ⟨rfl, hb2⟩
      have HZ2 := Lib.hid (HZ.out.trans (hb2.mono HZ.out.size))
      clear hb2 x0 x1
      go_wp2_with fail
      go_ret2
      exact ⟨false, rfl, HN.out HOK.out, HZ2.out⟩
    · have hok : okST l s t = true := by unfold okST; rw [h2, hst, hg]; rfl
      have h2b : inB t 0 ((l.shows.length : Int) - 1) = true := h2
      have h2' : (goodLab l && inB t 0 ((l.shows.length : Int) - 1)) = true := by rw [h2b, hg]; rfl
      have H2 := Lib.hid (fun W (hW : Below w.heap.size w W) => H.out W t hW)
      rw [h2'] at H2
      obtain ⟨i, rfl, hi⟩ := stB_true hst
      obtain ⟨k, rfl, hk⟩ := stB_true h2
      have HOK := Lib.hid hok
      have HSG := Lib.hid (fun W (hW : Below w.heap.size w W) => HSIM.out W hg hW)
      rw [hok]
      have b0 : (0 : Int) ≤ (i : Int) := by omega
      have b1 : (i : Int) < (l.shows.length : Int) := by omega
      have b2 : (0 : Int) ≤ (k : Int) := by omega
      have b3 : (k : Int) < (l.shows.length : Int) := by omega
      clear h2' h2b h2 hst hok h1 hg HSIM H
      go_enter Tryz.func52, Tryz.ntmps52
      go_wp2_with fail
      refine H1.out.mono ?_
      rintro e w1 ⟨rfl, hb1⟩
      obtain ⟨bx, _⟩ := one_box hb1
      have x0 : w1.cell? ⟨w.heap.size, 0, none⟩ = some (.slice A l.shows.length c) := cell_of_row _ _ _ _ _ _ bx
      have x1 : w1.cell? ⟨w.heap.size, 1, none⟩ = some (.slice D l.steps.length d) := cell_of_row _ _ _ _ _ _ bx
      have HZ := Lib.hid (HB.out.trans (hb1.mono HB.out.size))
      clear hb1 bx
      go_wp2_with fail
      refine (H2.out _ HZ.out).mono ?_
      rintro e w2 ⟨rfl, hb2⟩
      have HZ2 := Lib.hid (HZ.out.trans (hb2.mono HZ.out.size))
      have x0 := cell_below hb2 x0 (lt_of_cell x0)
      have x1 := cell_below hb2 x1 (lt_of_cell x1)
      clear hb2
      go_wp2_with fail
      refine (HSG.out _ HZ2.out).mono ?_
      rintro e w3 ⟨g, c', R, C, f, rfl, ht, hsim, hst, hb3⟩
      have o1 := ht.outer i hi
      obtain ⟨n1, _⟩ := ht.inner i k hi hk
      have HR := Lib.hid (show SimSaid l i k (f i k) from .inr ⟨HOK.out, _, hsim, hst, (relF_at hi hk).symm⟩)
      have HZ3 := Lib.hid (HZ2.out.trans (hb3.mono HZ2.out.size))
      clear ht hsim hst hb3 x0 x1
      go_wp2_with fail
      go_ret2
      exact ⟨_, rfl, HR.out, HZ3.out⟩

end Go.Proofs.YtdgnhfhaaghoaaaGreatDoor

set_option linter.unusedVariables false
namespace Go.Proofs.YtdgnhfhaaghoaaaGreatDoor
open Go.RowKit

set_option maxRecDepth 100000 in
set_option maxHeartbeats 20000000 in
theorem true_and (lv : Value) (l : Lab) (A : Option Addr) (c : Nat) (f : List Int) (k : Nat) (p2 p3 : Int) (sub sec : List Bool) (w : World) (hs : SmallLab l) (hl : RLab w lv l) (hf : f.length ≤ 200) (hA : Cells w A (ints f)) (hk : k < f.length) (h0 : f.getD k 0 = 3)
    (hsub : sub.length = l.shows.length) (hsec : sec.length = l.shows.length)
    (Hsub : ∀ W, Below w.heap.size w W → Calls Tryz.prog 84 #[lv, .slice A f.length c, .int .i64 ((k : Int) + 1)] W fun e W' => ∃ v, e = .returned (.tuple #[v, .int .i64 p2]) ∧ W'.ownsRow W.heap.size 4 1 v l.shows.length (bools sub) ∧ Below W.heap.size W W')
    (Hsec : ∀ W, Below w.heap.size w W → Calls Tryz.prog 84 #[lv, .slice A f.length c, .int .i64 p2] W fun e W' => ∃ v, e = .returned (.tuple #[v, .int .i64 p3]) ∧ W'.ownsRow W.heap.size 4 1 v l.shows.length (bools sec) ∧ Below W.heap.size W W') :
    Calls Tryz.prog 84 #[lv, .slice A f.length c, .int .i64 k] w fun e w' => ∃ v, e = .returned (.tuple #[v, .int .i64 (p3)]) ∧ w'.ownsRow w.heap.size 4 1 v l.shows.length (bools (List.zipWith (· && ·) sub sec)) ∧ Below w.heap.size w w' := by
  obtain ⟨i0, hi, hz0, hz1, hz2⟩ := info_parts info_bool
  obtain ⟨sv, tv, rfl, hsv, htv⟩ := hl
  have HSV := Lib.hid (show ∀ W, Below w.heap.size w W → RSS W sv l.shows from fun W hb => hsv.below hb)
  have HT := Lib.hid (show ∀ W, Below w.heap.size w W → RA3 W tv l.steps from fun W hb => htv.below hb)
  obtain ⟨B, d, vs, rfl, hm, hvl, hcB, hrow⟩ := hsv
  obtain ⟨D, dd, rfl, hdm, _⟩ := htv
  have hn := hs.1
  have hn3 := hs.2.1
  have hsm := hs.2.2
  obtain ⟨b, o, rfl, hc⟩ := hA.int (k := k) (by omega)
  have c00 := hc k (by omega)
  rw [h0] at c00
  have HC0 := Lib.hid c00
  have HH := Lib.hid Hsub
  have HH2 := Lib.hid Hsec
  clear Hsub Hsec
  obtain ⟨res, hres⟩ : ∃ res, res = List.zipWith (· && ·) sub sec := ⟨_, rfl⟩
  have hlen : res.length = l.shows.length := by rw [hres]; simp [hsub, hsec]
  have HAT := Lib.hid (show ∀ (j : Nat) x y, sub[j]? = some x → sec[j]? = some y → res[j]? = some (x && y) from fun j x y h1 h2 => by rw [hres, List.getElem?_zipWith, h1, h2])
  have HRES := Lib.hid hres
  clear hres
  clear c00 hc hA hvl hcB hrow
  go_enter Tryz.func84, Tryz.ntmps84
  go_wp2_with (first | (at_make; refine wpList_make_full _ rfl _ _ 79 rfl w.heap.size 4 i0 _ 1 Tryz.underlying79 hi hz0 hz1 _ _ _ _ l.shows.length rfl rfl rfl rfl (by rw [hz2]; omega) (by unfold maxLen; omega) (by simp) ?_; intro w1 hown hgrow; have hbel : Below w.heap.size w w1 := ((Below.refl _ _).alloc (Nat.le_refl _) _).grown hgrow (by simp) (by simp); have c0 := cell_below hbel HC0.out (lt_of_cell HC0.out); have q0 := cell_of_row w1 w.heap.size 0 _ _ _ ((hgrow.block w.heap.size (by simp) (by simp)).trans (heap_alloc_new _ _)); have q1 := cell_of_row w1 w.heap.size 1 _ _ _ ((hgrow.block w.heap.size (by simp) (by simp)).trans (heap_alloc_new _ _))) | fail)
  rw [fill_start _ res hlen, World.size_alloc] at hown
  refine (HH.out w1 hbel).mono ?_
  rintro e w1a ⟨v1, rfl, ho1, hb1⟩
  obtain ⟨A1, c1, rfl, ho1⟩ := owns_form ho1
  have hs1 : w1.heap.size ≤ w1a.heap.size := hb1.size
  have q0a := cell_below hb1 q0 (lt_of_cell q0)
  have q1a := cell_below hb1 q1 (lt_of_cell q1)
  have hlt1 : w.heap.size + 1 < w1.heap.size := (hown.lt _ rfl).2
  have hown1 := owns_below hown hb1 (Nat.le_refl _)
  have hbel1 : Below w.heap.size w w1a := hbel.trans (hb1.mono hbel.size)
  clear hb1
  go_wp2_with fail
  refine (HH2.out w1a hbel1).mono ?_
  rintro e w2 ⟨v2, rfl, ho2, hb2⟩
  obtain ⟨A2, c2, rfl, ho2⟩ := owns_form ho2
  have HO1 := Lib.hid (show Own w2 (fun b => w1.heap.size ≤ b) (.slice A1 l.shows.length c1) l.shows.length (bools sub) from ((Own.of_owns ho1).below hb2 (Nat.le_refl _)).mono (fun g hg => (ho1.lt g hg).1))
  have hown2 := owns_below hown1 hb2 (Nat.le_refl _)
  have hbel2 := hbel1.trans (hb2.mono hbel1.size)
  have HO2 := Lib.hid (show Own w2 (fun b => w1.heap.size ≤ b) (.slice A2 l.shows.length c2) l.shows.length (bools sec) from (Own.of_owns ho2).mono (fun g hg => Nat.le_trans hs1 (ho2.lt g hg).1))
  clear hgrow c0 q0 q1 q0a q1a hown hown1 ho1 ho2 hbel hbel1 hb2
  go_wp2_with fail
  go_loopw [19] (fun i wr => ∃ j : Nat, j ≤ l.shows.length ∧ i = .int .i64 j ∧ wr.ownsRow w.heap.size 4 1 (.slice (some ⟨w.heap.size + 1, 0, none⟩) l.shows.length l.shows.length) l.shows.length (bools (fillV res false j)) ∧ Below w.heap.size w wr ∧ Kept (fun b => b = w.heap.size + 1) w2 wr)
    (fun i _ => l.shows.length - (intOf i).toNat)
  case atStart => exact ⟨0, Nat.zero_le _, rfl, hown2, hbel2, Kept.refl _ _⟩
  case round =>
    clear hown2 hbel2
    obtain ⟨j, hj, rfl, hown, hbel, hkp⟩ := hrel
    by_cases hlt : j < l.shows.length
    · obtain ⟨A', c', e, hcs⟩ := (HO1.out.kept hkp (fun b h1 h2 => by omega)).cells
      cases e
      obtain ⟨b2, o2, rfl, hcb⟩ := hcs.at_ (k := j) (by simp; omega)
      obtain ⟨A3, c3, e, hcs3⟩ := (HO2.out.kept hkp (fun b h1 h2 => by omega)).cells
      cases e
      obtain ⟨b3, o3, rfl, hcb3⟩ := hcs3.at_ (k := j) (by simp; omega)
      have hjs : j < sub.length := by omega
      have hjs3 : j < sec.length := by omega
      have hcj := hcb j (.bool sub[j]) (by simp [hjs])
      have hcj3 := hcb3 j (.bool sec[j]) (by simp [hjs3])
      have hx := HAT.out j _ _ (List.getElem?_eq_getElem hjs) (List.getElem?_eq_getElem hjs3)
      generalize sub[j] = x at *
      generalize sec[j] = y at *
      clear hcb hcs hcb3 hcs3
      obtain ⟨g1, g2, g3⟩ := fill_step hown hlen hlt hx
      have HN := Lib.hid g3
      have HB := Lib.hid (hbel.setCell (p := ⟨w.heap.size + 1, j, none⟩) (by simp) (.bool (x && y)))
      have HK := Lib.hid (hkp.setCell (p := ⟨w.heap.size + 1, j, none⟩) rfl (.bool (x && y)))
      clear hown hbel g3 hkp
      have b0 : (0 : Int) ≤ (j : Int) := by omega
      have b1 : (j : Int) < (l.shows.length : Int) := by omega
      cases x
      · go_wp2_with fail
        go_roundw
        case rel => exact ⟨j + 1, by omega, by go_num, HN.out, HB.out, HK.out⟩
        case measure => simp [intOf]; omega
      · go_wp2_with fail
        go_roundw
        case rel => exact ⟨j + 1, by omega, by go_num, HN.out, HB.out, HK.out⟩
        case measure => simp [intOf]; omega
    · obtain rfl : j = l.shows.length := by omega
      rw [fill_end hlen] at hown
      have HO := Lib.hid hown
      clear hown
      go_wp2_with fail
      go_ret2
      exact ⟨_, rfl, by rw [← HRES.out]; exact HO.out, hbel⟩

end Go.Proofs.YtdgnhfhaaghoaaaGreatDoor

set_option linter.unusedVariables false
namespace Go.Proofs.YtdgnhfhaaghoaaaGreatDoor
open Go.RowKit

theorem goodL_of {l : Lab} (h : goodLab l = true) : GoodL l where
  some_ := (goodF_size h).1
  steps := goodF_steps h
  acts := goodF_acts h
  marks := fun i hi => ⟨(goodF_row h hi).1, (goodF_row h hi).2.1⟩
end Go.Proofs.YtdgnhfhaaghoaaaGreatDoor

set_option linter.unusedVariables false
namespace Go.Proofs.YtdgnhfhaaghoaaaGreatDoor
open Go.RowKit

theorem inB_mk {n lo hi : Int} (h : lo ≤ n ∧ n ≤ hi) : inB n lo hi = true := by unfold inB; simp; exact h
theorem bisR_at {l : Lab} (h : goodLab l = true) : (bisR l).length = l.shows.length ∧ 0 < (bisR l).length := by
  have := goodF_size h
  unfold bisR
  rw [if_pos h, show (lastL l).length = _ from parts_len _ _]
  omega
end Go.Proofs.YtdgnhfhaaghoaaaGreatDoor

set_option linter.unusedVariables false
namespace Go.Proofs.YtdgnhfhaaghoaaaGreatDoor
open Go.RowKit

structure At (W : World) (g : Nat) (U T : Value) (l : Lab) : Prop where
  box : W.heap[g]? = some (.cells #[U, T] 27)
  r : RLab W (.agg #[U, T]) l
section
variable {W W' : World} {g : Nat} {U T : Value} {l : Lab}
theorem At.below (h : At W g U T l) (hb : Below W.heap.size W W') : At W' g U T l :=
  { box := (hb.block g (Array.getElem?_eq_some_iff.1 h.box).1).trans h.box, r := h.r.below hb }
theorem At.cells (h : At W g U T l) : W.cell? ⟨g, 0, none⟩ = some U ∧ W.cell? ⟨g, 1, none⟩ = some T := ⟨cell_of_row W g 0 _ _ _ h.box, cell_of_row W g 1 _ _ _ h.box⟩
theorem At.new (hW : W' = W.alloc (.cells #[U, T] 27)) (hr : RLab W (.agg #[U, T]) l) : At W' W.heap.size U T l := by
  subst hW
  exact { box := heap_alloc_new _ _, r := hr.below ((Below.refl _ _).alloc (Nat.le_refl _) _) }
end
theorem below_new {w w' : World} {o : Obj} (h : w' = w.alloc o) : Below w.heap.size w w' := by
  subst h; exact (Below.refl _ _).alloc (Nat.le_refl _) _
theorem DLab.open_ {w w' : World} {u t : Value} (h : DLab w w' u t) : ∃ (l : Lab) (AU : Option Addr) (cU : Nat) (AT : Option Addr) (cT : Nat), SmallLab l ∧ DSz l ∧ u = .slice AU l.shows.length cU ∧ t = .slice AT l.steps.length cT ∧ RLab w' (.agg #[u, t]) l := by
  obtain ⟨l, hs, hz, hR⟩ := h.rlab
  obtain ⟨sv, tv, e, ⟨AU, cU, vs, e1, h1⟩, ⟨AT, cT, e2, h2⟩⟩ := hR
  cases e
  exact ⟨l, AU, cU, AT, cT, hs, hz, e1, e2, u, t, rfl, ⟨AU, cU, vs, e1, h1⟩, ⟨AT, cT, e2, h2⟩⟩
end Go.Proofs.YtdgnhfhaaghoaaaGreatDoor

set_option linter.unusedVariables false
namespace Go.Proofs.YtdgnhfhaaghoaaaGreatDoor
open Go.RowKit

set_option maxHeartbeats 1000000 in
theorem vInts_any (A B : Option Addr) (c d : Nat) (xs ys : List Int) (w : World) (hn : xs.length ≤ 16777216) (hm : ys.length ≤ 16777216) (hA : Cells w A (ints xs)) (hB : Cells w B (ints ys)) :
    Calls Tryz.prog 13 #[.slice A xs.length c, .slice B ys.length d] w fun e w' => e = .returned (.bool (sameI xs ys)) ∧ Below w.heap.size w w' := by
  by_cases hl : xs.length = ys.length
  · have hl' : ((xs.length : Int) == (ys.length : Int)) = true := by simp [hl]
    have hl'' : ((xs.length : Int) != (ys.length : Int)) = false := by simp [hl]
    have HL := Lib.hid hl
    clear hl
    go_enter Tryz.func13, Tryz.ntmps13
    go_wp2
    go_loopw [5] (fun i wr => ∃ k : Nat, k ≤ xs.length ∧ i = .int .i64 k ∧ (∀ j, j < k → xs.getD j 0 = ys.getD j 0) ∧ Below w.heap.size w wr)
      (fun i _ => xs.length - (intOf i).toNat)
    case atStart => exact ⟨0, Nat.zero_le _, rfl, fun j hj => by omega, Below.refl _ _⟩
    case round =>
      obtain ⟨k, hk, rfl, hsame, hbel⟩ := hrel
      have HS := Lib.hid hsame
      clear hsame
      by_cases hlt : k < xs.length
      · have hlt2 : k < ys.length := by have := HL.out; omega
        obtain ⟨b, o, rfl, hc⟩ := (hA.below hbel).int hlt
        have hck := hc k hlt
        obtain ⟨b', o', rfl, hc'⟩ := (hB.below hbel).int hlt2
        have hck' := hc' k hlt2
        clear hc hc' hA hB
        by_cases hx : xs.getD k 0 = ys.getD k 0
        · have HX := Lib.hid hx
          have hb0 : (xs.getD k 0 != ys.getD k 0) = false := by rw [hx, bne_self_eq_false]
          clear hx
          obtain ⟨x, ex⟩ : ∃ x, x = xs.getD k 0 := ⟨_, rfl⟩
          obtain ⟨y, ey⟩ : ∃ y, y = ys.getD k 0 := ⟨_, rfl⟩
          rw [← ex] at hck hb0
          rw [← ey] at hck' hb0
          clear ex ey
          go_wp2
          go_quiet (fail)
          go_wp2
          go_roundw
          case rel =>
            refine ⟨k + 1, by omega, by go_num, fun j hj => ?_, below_drewN' hbel _⟩
            rcases Nat.lt_succ_iff_lt_or_eq.1 hj with h | h
            · exact HS.out j h
            · rw [h]; exact HX.out
          case measure => simp [intOf]; omega
        · have E := sameI_at hx
          have HE := Lib.hid E
          have hb0 : (xs.getD k 0 != ys.getD k 0) = true := by rw [bne_iff_ne]; exact hx
          clear hx E
          obtain ⟨x, ex⟩ : ∃ x, x = xs.getD k 0 := ⟨_, rfl⟩
          obtain ⟨y, ey⟩ : ∃ y, y = ys.getD k 0 := ⟨_, rfl⟩
          rw [← ex] at hck hb0
          rw [← ey] at hck' hb0
          clear ex ey
          go_wp2
          go_quiet (fail)
          go_wp2
          go_ret
          exact ⟨by rw [HE.out]; rfl, below_drewN' hbel _⟩
      · obtain rfl : k = xs.length := by omega
        have E := sameI_all HL.out HS.out
        have HE := Lib.hid E
        clear E
        go_wp2
        go_ret
        exact ⟨by rw [HE.out]; rfl, hbel⟩
  · have hl' : ((xs.length : Int) == (ys.length : Int)) = false := by rw [beq_eq_false_iff_ne]; omega
    have hl'' : ((xs.length : Int) != (ys.length : Int)) = true := by rw [bne_iff_ne]; omega
    have HE := Lib.hid (sameI_len hl)
    clear hl
    go_enter Tryz.func13, Tryz.ntmps13
    go_wp2
    go_ret
    exact ⟨by rw [HE.out]; rfl, Below.refl _ _⟩

theorem vBig_any (A : Option Addr) (n c : Nat) (w : World) (hn : n ≤ maxLen) :
    Calls Tryz.prog 9 #[.slice A n c] w fun e w' => e = .returned (.bool (decide (65536 < n))) ∧ w = w' := by
  by_cases h : 65536 < n
  · have h' : (65536 : Int) < (n : Int) := by omega
    go_enter Tryz.func9, Tryz.ntmps9
    go_wp2
    go_ret
    exact ⟨by simp [h], rfl⟩
  · have h' : ¬ (65536 : Int) < (n : Int) := by omega
    go_enter Tryz.func9, Tryz.ntmps9
    go_wp2
    go_ret
    exact ⟨by simp [h], rfl⟩

/-- Results: a struct in a cell, and two slots. -/
theorem results_cell_row3 {P : Program} {fn : Func} {p q r : Tmp} {ty : TypeId} (h : fn.results = #[.cell p ty, .tmp q, .tmp r]) (tmps : Array Value) (w : World) (g : Nat) (t : TypeId) (cs : Array Value) (fr : Nat × Nat) (d : TypeDesc)
    (hp : tmps.getD p undef = .pointer (some ⟨g, 0, none⟩)) (hg : w.heap[g]? = some (.cells cs t fr))
    (hu : P.underlying ty = some d) (hd : (match d with | .struct _ | .array _ _ => true | _ => false) = true) (hi : (P.info? ty).map (·.size) = some cs.size) :
    (results fn tmps).run P w = .ok (.tuple #[.agg cs, tmps.getD q undef, tmps.getD r undef]) w := by
  have hp' : tmps[p]?.getD undef = .pointer (some ⟨g, 0, none⟩) := by simpa using hp
  simp [results, h, hp', asAddr, run_loadVar_row w g t ty cs fr d hg hu hd hi]

end Go.Proofs.YtdgnhfhaaghoaaaGreatDoor

set_option linter.unusedVariables false
namespace Go.Proofs.YtdgnhfhaaghoaaaGreatDoor
open Go.RowKit

set_option maxRecDepth 100000 in
set_option maxHeartbeats 16000000 in
theorem drawIsLabelled_any (A : Option Addr) (bs : List Int) (c : Nat) (w : World) (hA : Cells w A (u8s bs)) (hrng : ∀ x ∈ bs, 0 ≤ x ∧ x < 256) (hlen : bs.length ≤ 1000000000000) :
    Calls Tryz.prog 85 #[.slice A bs.length c] w fun e w' => ∃ u t, e = .returned (.agg #[u, t]) ∧ DLab w w' u t ∧ Below w.heap.size w w' := by
  obtain ⟨W0, hW0⟩ : ∃ W0, W0 = (w.alloc (.cells #[.slice none 0 0, .slice none 0 0] 27)).alloc (.cells #[.slice A bs.length c, .int .i64 0, .int .u64 0] 94) := ⟨_, rfl⟩
  have hb0 : Below w.heap.size w W0 := by rw [hW0]; exact ((Below.refl _ _).alloc (Nat.le_refl _) _).alloc (by simp) _
  have hs0 : W0.heap.size = w.heap.size + 1 + 1 := by rw [hW0]; simp
  have bx0 : W0.heap[w.heap.size]? = some (.cells #[.slice none 0 0, .slice none 0 0] 27) := by
    rw [hW0]
    exact (heap_alloc_old _ _ (by simp)).trans (heap_alloc_new _ _)
  have hC : Cur W0 (w.heap.size + 1) A bs c 0 := by
    have h := Cur.start (c := c) (hA.below (((Below.refl w.heap.size w).alloc (Nat.le_refl _) (.cells #[.slice none 0 0, .slice none 0 0] 27)))) hrng hlen
    rw [World.size_alloc] at h
    rw [hW0]; exact h
  have HC := Lib.hid hC
  have HB0 := Lib.hid hb0
  have HX0 := Lib.hid bx0
  have HW0 := Lib.hid hW0
  clear hC hb0 bx0 hW0 hA
  go_enter Tryz.func85, Tryz.ntmps85
  go_wp2_with fail
  rw [← HW0.out]
  (with_reducible refine (labelled_any (w.heap.size + 1) A bs c 0 W0 HC.out (by omega)).mono ?_)
  rintro e w1 ⟨u, t, rfl, hD, hC1, hK1⟩
  obtain ⟨AU, n, cU, AT, m, cT, rfl, rfl⟩ := hD.form
  have bx1 := (hK1.block w.heap.size (by omega) (by omega)).trans HX0.out
  have HD := Lib.hid hD
  have HK1 := Lib.hid hK1
  have HX1 := Lib.hid bx1
  have f0 := frozen_of_row w1 _ 0 _ _ bx1
  have f1 := frozen_of_row w1 _ 1 _ _ bx1
  have s0 := cell_of_row w1 _ 0 _ _ _ bx1
  have s1 := cell_of_row w1 _ 1 _ _ _ bx1
  have hs1 := hK1.size
  clear hD hK1 hC1 bx1
  go_wp2_with fail
  obtain ⟨hend, hk2⟩ := box_put (.slice AU n cU) (.slice AT m cT) HX1.out
  (try simp only [Exit.inBlock, Exit.then])
  refine bodyPost_ret (results_cell_row rfl _ _ w.heap.size _ #[.slice AU n cU, .slice AT m cT] _ _ rfl hend Tryz.underlying27 rfl (by kernel_rfl)) rfl ?_
  exact ⟨_, _, rfl, (HD.out.kept hk2 (fun q hq => by omega)).low (by omega), (HB0.out.trans (HK1.out.below (B := w.heap.size) (fun q hq => by omega) (by omega))).trans (hk2.below (B := w.heap.size) (fun q hq => by omega) (by omega))⟩

set_option maxHeartbeats 4000000 in
theorem drawBisimilarOf_any (A : Option Addr) (bs : List Int) (c : Nat) (w : World) (hA : Cells w A (u8s bs)) (hrng : ∀ x ∈ bs, 0 ≤ x ∧ x < 256) (hlen : bs.length ≤ 1000000000000) :
    Calls Tryz.prog 43 #[.slice A bs.length c] w fun e w' => ∃ u t, e = .returned (.agg #[u, t]) ∧ DLab w w' u t ∧ Below w.heap.size w w' := by
  obtain ⟨W0, hW0⟩ : ∃ W0, W0 = w.alloc (.cells #[.slice none 0 0, .slice none 0 0] 27) := ⟨_, rfl⟩
  have hb0 : Below w.heap.size w W0 := by rw [hW0]; exact (Below.refl _ _).alloc (Nat.le_refl _) _
  have hs0 : W0.heap.size = w.heap.size + 1 := by rw [hW0]; simp
  have bx0 : W0.heap[w.heap.size]? = some (.cells #[.slice none 0 0, .slice none 0 0] 27) := by rw [hW0]; exact heap_alloc_new _ _
  have H := Lib.hid (drawIsLabelled_any A bs c W0 (hA.below hb0) hrng hlen)
  have HB0 := Lib.hid hb0
  have HX0 := Lib.hid bx0
  have HW0 := Lib.hid hW0
  clear hb0 bx0 hW0 hA
  go_enter Tryz.func43, Tryz.ntmps43
  go_wp2_with fail
  rw [← HW0.out]
  (with_reducible refine H.out.mono ?_)
  rintro e w1 ⟨u, t, rfl, hD, hB⟩
  obtain ⟨AU, n, cU, AT, m, cT, rfl, rfl⟩ := hD.form
  have bx1 := (hB.block w.heap.size (by omega)).trans HX0.out
  have HD := Lib.hid hD
  have HB := Lib.hid hB
  have HX1 := Lib.hid bx1
  have f0 := frozen_of_row w1 _ 0 _ _ bx1
  have f1 := frozen_of_row w1 _ 1 _ _ bx1
  have s0 := cell_of_row w1 _ 0 _ _ _ bx1
  have s1 := cell_of_row w1 _ 1 _ _ _ bx1
  have hs1 := hB.size
  clear hD hB bx1
  go_wp2_with fail
  obtain ⟨hend, hk2⟩ := box_put (.slice AU n cU) (.slice AT m cT) HX1.out
  (try simp only [Exit.inBlock, Exit.then])
  refine bodyPost_ret (results_cell_row rfl _ _ w.heap.size _ #[.slice AU n cU, .slice AT m cT] _ _ rfl hend Tryz.underlying27 rfl (by kernel_rfl)) rfl ?_
  exact ⟨_, _, rfl, (HD.out.kept hk2 (fun q hq => by omega)).low (by omega), (HB0.out.trans (HB.out.mono (by omega))).trans (hk2.below (B := w.heap.size) (fun q hq => by omega) (by omega))⟩

end Go.Proofs.YtdgnhfhaaghoaaaGreatDoor
