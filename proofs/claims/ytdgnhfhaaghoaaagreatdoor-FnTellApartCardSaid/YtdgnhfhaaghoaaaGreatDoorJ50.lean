/- Three labelled systems in boxes of their own, each with its blocks: what the laws over one labelled system carry. A list, a labelled system in its box, a list: each with its blocks: what the laws over one labelled system with a list as result carry. The law of TellApart over drawn systems, walked: the formula told is one that the first state satisfies and the second one does not, and there is none for bisimilar states. Arguments opened: from the form's reading of a slice to the words of XBase. An argument opened: from the form's reading of a slice of bytes to the words of XBase. A world for the witness of a row that lists the three tables of the number writer: the settled one, each table holding what its initialiser lays. -/
import Derived.Test.YtdgnhfhaaghoaaaGreatDoorProg
import Derived.Test.YtdgnhfhaaghoaaaGreatDoorJ6
import Derived.Test.YtdgnhfhaaghoaaaGreatDoorJ8
import Derived.Test.YtdgnhfhaaghoaaaGreatDoorJ19
import Derived.Test.YtdgnhfhaaghoaaaGreatDoorJ36
import Derived.Test.YtdgnhfhaaghoaaaGreatDoorJ49
import Derived.Test.YtdgnhfhaaghoaaaGreatDoorJ48
import Derived.BigQuiet
import Derived.Test.YtdgnhfhaaghoaaaGreatDoorJ0
import Derived.ProofKit
import Derived.Test.YtdgnhfhaaghoaaaGreatDoorJ37
import Derived.Test.YtdgnhfhaaghoaaaGreatDoorRows
import Derived.WalkKit
import Derived.Deep.DeepHandedRow
set_option linter.unusedSimpArgs false
set_option linter.unusedVariables false
namespace Go.Proofs.YtdgnhfhaaghoaaaGreatDoor
open Go.RowKit

theorem box_cells' {w : World} {b : Nat} {x y : Value} {t : TypeId} (h : w.heap[b]? = some (.cells #[x, y] t)) : w.cell? ⟨b, 0, none⟩ = some x ∧ w.cell? ⟨b, 1, none⟩ = some y := ⟨cell_of_row _ _ _ _ _ _ h, cell_of_row _ _ _ _ _ _ h⟩
structure VZ (n2 p1 p2 p3 : Nat) (y1 y2 x1 x2 g1 g2 : Value) (a R Q : Lab) (w : World) : Prop where
  by' : w.heap[p1]? = some (.cells #[y1, y2] 27)
  bx : w.heap[p2]? = some (.cells #[x1, x2] 27)
  bg : w.heap[p3]? = some (.cells #[g1, g2] 27)
  oy : OwnLab w (fun q => n2 ≤ q ∧ q < p1) (.agg #[y1, y2]) R
  ox : OwnLab w (fun q => p1 < q ∧ q < p2) (.agg #[x1, x2]) a
  og : OwnLab w (fun q => p2 < q ∧ q < p3) (.agg #[g1, g2]) Q
  l0 : n2 ≤ p1
  l1 : p1 < p2
  l2 : p2 < p3
  l3 : p3 < w.heap.size

variable {n2 p1 p2 p3 : Nat} {y1 y2 x1 x2 g1 g2 : Value} {a R Q : Lab} {w w' : World}
theorem VZ.below (h : VZ n2 p1 p2 p3 y1 y2 x1 x2 g1 g2 a R Q w) (hb : Below w.heap.size w w') : VZ n2 p1 p2 p3 y1 y2 x1 x2 g1 g2 a R Q w' := by
  have h1 := h.l1
  have h2 := h.l2
  have h3 := h.l3
  have hs := hb.size
  exact { h with by' := (hb.block _ (by omega)).trans h.by', bx := (hb.block _ (by omega)).trans h.bx, bg := (hb.block _ (by omega)).trans h.bg, oy := h.oy.below hb (Nat.le_refl _), ox := h.ox.below hb (Nat.le_refl _), og := h.og.below hb (Nat.le_refl _), l3 := by omega }
theorem VZ.cells (h : VZ n2 p1 p2 p3 y1 y2 x1 x2 g1 g2 a R Q w) : (w.cell? ⟨p1, 0, none⟩ = some y1 ∧ w.cell? ⟨p1, 1, none⟩ = some y2) ∧ (w.cell? ⟨p2, 0, none⟩ = some x1 ∧ w.cell? ⟨p2, 1, none⟩ = some x2) ∧ w.cell? ⟨p3, 0, none⟩ = some g1 ∧ w.cell? ⟨p3, 1, none⟩ = some g2 := ⟨box_cells' h.by', box_cells' h.bx, box_cells' h.bg⟩
end Go.Proofs.YtdgnhfhaaghoaaaGreatDoor

set_option linter.unusedVariables false
namespace Go.Proofs.YtdgnhfhaaghoaaaGreatDoor
open Go.RowKit

structure VI (n2 n3 p2 n5 : Nat) (yv x1 x2 gv : Value) (a : Lab) (R Q : List Int) (w : World) : Prop where
  bx : w.heap[p2]? = some (.cells #[x1, x2] 27)
  oy : Own w (fun q => n2 ≤ q ∧ q < n3) yv R.length (ints R)
  ox : OwnLab w (fun q => n3 ≤ q ∧ q < p2) (.agg #[x1, x2]) a
  og : Own w (fun q => p2 < q ∧ q < n5) gv Q.length (ints Q)
  l0 : n2 ≤ n3
  l1 : n3 ≤ p2
  l2 : p2 < n5
  l3 : n5 ≤ w.heap.size

variable {n2 n3 p2 n5 : Nat} {yv x1 x2 gv : Value} {a : Lab} {R Q : List Int} {w w' : World}
theorem VI.below (h : VI n2 n3 p2 n5 yv x1 x2 gv a R Q w) (hb : Below w.heap.size w w') : VI n2 n3 p2 n5 yv x1 x2 gv a R Q w' := by
  have h1 := h.l1
  have h2 := h.l2
  have h3 := h.l3
  have hs := hb.size
  exact { h with bx := (hb.block _ (by omega)).trans h.bx, oy := h.oy.below hb (Nat.le_refl _), ox := h.ox.below hb (Nat.le_refl _), og := h.og.below hb (Nat.le_refl _), l3 := by omega }
theorem VI.cells (h : VI n2 n3 p2 n5 yv x1 x2 gv a R Q w) : w.cell? ⟨p2, 0, none⟩ = some x1 ∧ w.cell? ⟨p2, 1, none⟩ = some x2 := box_cells' h.bx
end Go.Proofs.YtdgnhfhaaghoaaaGreatDoor

set_option linter.unusedVariables false
namespace Go.Proofs.YtdgnhfhaaghoaaaGreatDoor
open Go.RowKit

set_option maxRecDepth 100000 in
set_option maxHeartbeats 16000000 in
theorem lawFnTellApart (A : Option Addr) (bs : List Int) (c : Nat) (w : World) (hA : Cells w A (u8s bs)) (hrng : ∀ x ∈ bs, 0 ≤ x ∧ x < 256) (hlen : bs.length ≤ maxLen) :
    Calls Tryz.prog 3 #[.slice A bs.length c] w fun e w' => e = .returned (.bool true) ∧ Below w.heap.size w w' := by
  have HB := Lib.hid (vBig_any A bs.length c w hlen)
  by_cases hbig : 65536 < bs.length
  · rw [show decide (65536 < bs.length) = true from by simp [hbig]] at HB
    clear hbig hlen hA hrng
    go_enter Tryz.func3, Tryz.ntmps3
    go_wp2_with fail
    (with_reducible refine HB.out.mono ?_)
    rintro e w1 ⟨rfl, rfl⟩
    go_wp2_with fail
    go_ret
    exact ⟨rfl, Below.refl _ _⟩
  rw [show decide (65536 < bs.length) = false from by simp [hbig]] at HB
  have HD := Lib.hid (drawTellApart_any A bs c w hA hrng (by omega))
  clear hbig hlen hA hrng
  go_enter Tryz.func3, Tryz.ntmps3
  go_wp2_with fail
  (with_reducible refine HB.out.mono ?_)
  rintro e w' ⟨rfl, rfl⟩
  go_wp2_with fail
  (with_reducible refine HD.out.mono ?_)
  rintro e w1 ⟨u, v, s, t, rfl, hD, hs0, hs60, ht1, ht60, hb1⟩
  clear HB HD
  obtain ⟨l, hsm, hz, hR⟩ := hD.rlab
  obtain ⟨AU, cU, AT, cT, rfl, rfl⟩ : ∃ AU cU AT cT, u = .slice AU l.shows.length cU ∧ v = .slice AT l.steps.length cT := by
    obtain ⟨sv, tv, e, ⟨AU, cU, _, e1, _⟩, ⟨AT, cT, e2, _⟩⟩ := hR
    cases e
    exact ⟨AU, cU, AT, cT, e1, e2⟩
  clear hD
  have hba := (Below.refl w1.heap.size w1).alloc (Nat.le_refl _) (.cells #[.slice AU l.shows.length cU, .slice AT l.steps.length cT] 27)
  have hsa : (w1.alloc (.cells #[.slice AU l.shows.length cU, .slice AT l.steps.length cT] 27)).heap.size = w1.heap.size + 1 := by simp
  have HX := Lib.hid (show ∀ W, Below (w1.alloc (.cells #[.slice AU l.shows.length cU, .slice AT l.steps.length cT] 27)).heap.size (w1.alloc (.cells #[.slice AU l.shows.length cU, .slice AT l.steps.length cT] 27)) W → W.cell? ⟨w1.heap.size, 0, none⟩ = some (.slice AU l.shows.length cU) ∧ W.cell? ⟨w1.heap.size, 1, none⟩ = some (.slice AT l.steps.length cT) from fun W hW => box_cells' ((hW.block _ (by omega)).trans (heap_alloc_new _ _)))
  have HRW := Lib.hid (show ∀ W, Below (w1.alloc (.cells #[.slice AU l.shows.length cU, .slice AT l.steps.length cT] 27)).heap.size (w1.alloc (.cells #[.slice AU l.shows.length cU, .slice AT l.steps.length cT] 27)) W → RLab W (.agg #[.slice AU l.shows.length cU, .slice AT l.steps.length cT]) l from fun W hW => (hR.below hba).below hW)
  have HB1 := Lib.hid (hb1.trans (hba.mono hb1.size))
  have hs1 := hb1.size
  clear hba hb1 hR
  obtain ⟨W1, hW1⟩ : ∃ W1, W1 = w1.alloc (.cells #[.slice AU l.shows.length cU, .slice AT l.steps.length cT] 27) := ⟨_, rfl⟩
  rw [← hW1] at HX HRW HB1 hsa
  obtain ⟨p0, p1⟩ := HX.out W1 (Below.refl _ _)
  have HW1 := Lib.hid hW1
  clear hW1
  go_wp2_with fail
  rw [← HW1.out]
  (with_reducible refine (implTellR_any _ l s t W1 hsm (HRW.out W1 (Below.refl _ _))).mono ?_)
  rintro e w2 ⟨r2, rfl, hr2, hb2⟩
  obtain ⟨FA, fc, rfl, hr2⟩ := owns_form hr2
  have HF := Lib.hid (Cells.of_owns hr2)
  have HB2 := Lib.hid hb2
  have hs2 := hb2.size
  clear hr2 hb2 p0 p1
  obtain ⟨p0, p1⟩ := HX.out w2 HB2.out
  go_wp2_with fail
  (with_reducible refine (specTellR_any _ l s t w2 hsm (HRW.out w2 HB2.out)).mono ?_)
  rintro e w3 ⟨r3, rfl, hr3, hb3⟩
  obtain ⟨GA, gc, rfl, hr3⟩ := owns_form hr3
  have HG := Lib.hid (Cells.of_owns hr3)
  have HB3 := Lib.hid (HB2.out.trans (hb3.mono hs2))
  have HF := Lib.hid (HF.out.below hb3)
  have hs3 := HB3.out.size
  clear hr3 hb3 p0 p1
  have hRl := tellR_len l s t
  have HL := Lib.hid (fun h => tell_law (l := l) (s := s) (t := t) h)
  have HBAD := Lib.hid (fun h => tell_bad (l := l) (s := s) (t := t) h)
  generalize tellR l s t = R at *
  generalize tellOk l s t = ok at *
  have hbne : (ok != ok) = false := by rw [bne_self_eq_false]
  have HV := Lib.hid (vInts_any FA GA fc gc R R w3 (by omega) (by omega) HF.out HG.out)
  rw [sameI_refl R] at HV
  go_wp2_with fail
  (with_reducible refine HV.out.mono ?_)
  rintro e w4 ⟨rfl, hb4⟩
  have HB4 := Lib.hid (HB3.out.trans (hb4.mono hs3))
  have HF := Lib.hid (HF.out.below hb4)
  have hs4 := HB4.out.size
  clear hb4 HG HV hbne
  obtain ⟨p0, p1⟩ := HX.out w4 HB4.out
  go_wp2_with fail
  (with_reducible refine (implBisimilarOf_any _ l w4 hsm (HRW.out w4 HB4.out)).mono ?_)
  rintro e w5 ⟨r5, rfl, hr5, hb5⟩
  obtain ⟨CA, cc, rfl, hr5⟩ := owns_form hr5
  have HC := Lib.hid (Cells.of_owns hr5)
  have HB5 := Lib.hid (HB4.out.trans (hb5.mono hs4))
  have HF := Lib.hid (HF.out.below hb5)
  have hs5 := HB5.out.size
  have HBE := Lib.hid (HB1.out.trans (HB5.out.mono (show w.heap.size ≤ W1.heap.size by omega)))
  have hCl := bisR_len l
  clear hr5 hb5 p0 p1
  by_cases hok : okST l s t = true
  · obtain ⟨hg, i, rfl, hi, j, rfl, hj⟩ : goodLab l = true ∧ ∃ i : Nat, s = (i : Int) ∧ i < l.shows.length ∧ ∃ j : Nat, t = (j : Int) ∧ j < l.shows.length := by
      unfold okST at hok
      simp only [Bool.and_eq_true] at hok
      obtain ⟨i, h1, h2⟩ := stB_true hok.1.2
      obtain ⟨j, h3, h4⟩ := stB_true hok.2
      exact ⟨hok.1.1, i, h1, h2, j, h3, h4⟩
    have hbl : bisR l = lastL l := by unfold bisR; rw [if_pos hg]
    have hCL : (lastL l).length = l.shows.length := parts_len l _
    rw [hbl] at HC hCl ⊢
    rw [hg]
    rw [Int.toNat_natCast, Int.toNat_natCast] at HL
    obtain ⟨C, hC⟩ : ∃ C, C = lastL l := ⟨_, rfl⟩
    rw [← hC] at HC hCl hCL HL ⊢
    have hi' : (i : Int) < (C.length : Int) := by omega
    have hj' : (j : Int) < (C.length : Int) := by omega
    have hi0 : ¬ (i : Int) < 0 := by omega
    have hj0 : ¬ (j : Int) < 0 := by omega
    clear hbl hC hCL hok HBAD
    cases ok
    · go_wp2_with fail
      go_ret
      exact ⟨rfl, HBE.out⟩
    · obtain ⟨h1, h2, h3, h4⟩ := HL.out rfl
      have hne : (C.getD i 0 != C.getD j 0) = true := by rw [bne, h2]; rfl
      have HS := Lib.hid (fun W (hb : Below W1.heap.size W1 W) (hf : Cells W FA (ints R)) => implSatisfying_any _ l FA fc R W hsm (HRW.out W hb) (by omega) hf)
      rw [h1] at HS
      have hsl : (satS l R).length ≤ 16777216 := by
        unfold satS; rw [if_pos h1]
        have := which_len (satB l R R.length 0) l.shows.length; have := hz.a; omega
      obtain ⟨b, o, rfl, hc⟩ := HC.out.int (show i < C.length by omega)
      have ci := hc i (by omega)
      have cj := hc j (by omega)
      obtain ⟨p0, p1⟩ := HX.out w5 HB5.out
      have HCI := Lib.hid ci
      have HCJ := Lib.hid cj
      clear h1 h2 hc HL HC ci cj
      go_wp2_with fail
      (with_reducible refine (HS.out w5 HB5.out HF.out).mono ?_)
      rintro e w6 ⟨r6, rfl, hr6, hb6⟩
      obtain ⟨LA, lc, rfl, hr6⟩ := owns_form hr6
      have HLC := Lib.hid (Cells.of_owns hr6)
      have hs6 := hb6.size
      have HBE := Lib.hid (HBE.out.trans (hb6.mono (show w.heap.size ≤ w5.heap.size by omega)))
      have ci := cell_below hb6 HCI.out (lt_of_cell HCI.out)
      have cj := cell_below hb6 HCJ.out (lt_of_cell HCJ.out)
      have HH1 := Lib.hid (fun n => (vHas_any LA lc (satS l R) (i : Int) (w6.drewN n) hsl (HLC.out.below (below_drewN' (Below.refl _ _) n))).mono (fun e w' h => And.intro h.1 h.2.symm))
      have HH2 := Lib.hid (fun n => (vHas_any LA lc (satS l R) (j : Int) (w6.drewN n) hsl (HLC.out.below (below_drewN' (Below.refl _ _) n))).mono (fun e w' h => And.intro h.1 h.2.symm))
      rw [h3] at HH1
      rw [h4] at HH2
      clear hb6 hr6 HS p0 p1 HCI HCJ h3 h4
      generalize satS l R = S at *
      generalize C.getD i 0 = x at *
      generalize C.getD j 0 = y at *
      go_wp2_with fail
      go_quiet ((first | with_reducible exact Calls.quiet_of_same (HH1.out _) | with_reducible exact Calls.quiet_of_same (HH2.out _)))
      go_wp2_with fail
      go_ret
      exact ⟨rfl, below_drewN' HBE.out _⟩
  · have hokf : okST l s t = false := by simpa using hok
    obtain rfl : ok = false := HBAD.out hokf
    have hor : goodLab l = true → ¬ (0 ≤ s ∧ s < ((bisR l).length : Int) ∧ 0 ≤ t ∧ t < ((bisR l).length : Int)) := fun hg h => by
      have hbl : (bisR l).length = l.shows.length := by unfold bisR; rw [if_pos hg]; exact parts_len l _
      apply hok
      unfold okST stB inB
      rw [hg]
      simp
      omega
    generalize bisR l = C at *
    clear hok hokf HBAD HL
    cases hg : goodLab l
    · clear hor
      go_wp2_with fail
      go_ret
      exact ⟨rfl, HBE.out⟩
    · have hor := hor hg
      clear hg
      by_cases h1 : s < 0
      · clear hor
        go_wp2_with fail
        go_ret
        exact ⟨rfl, HBE.out⟩
      by_cases h2 : t < 0
      · clear hor
        go_wp2_with fail
        go_ret
        exact ⟨rfl, HBE.out⟩
      by_cases h3 : (C.length : Int) ≤ s
      · clear hor
        go_wp2_with fail
        go_ret
        exact ⟨rfl, HBE.out⟩
      have h4 : (C.length : Int) ≤ t := by omega
      clear hor
      go_wp2_with fail
      go_ret
      exact ⟨rfl, HBE.out⟩

end Go.Proofs.YtdgnhfhaaghoaaaGreatDoor

set_option linter.unusedVariables false
namespace Go.Proofs.YtdgnhfhaaghoaaaGreatDoor
open Go.RowKit

theorem addr_of_cell {w : World} {x : Addr} {v : Value} (h : w.cell? (x.add 0) = some v) : ∃ b o, x = ⟨b, o, none⟩ := by
  obtain ⟨b, o, s⟩ := x
  cases s with
  | none => exact ⟨b, o, rfl⟩
  | some q =>
    exfalso
    have k : w.cell? ⟨b, o, some q⟩ = none := by simp only [World.cell?]; split <;> simp
    have e : (⟨b, o, some q⟩ : Addr).add 0 = ⟨b, o, some q⟩ := by simp [Addr.add]
    rw [e, k] at h
    cases h

theorem Cells.of_add {w : World} {x : Addr} {xs : List Value} (h : ∀ j u, xs[j]? = some u → w.cell? (x.add j) = some u) : Cells w (some x) xs := fun j u hj => by
  have hl := (List.getElem?_eq_some_iff.1 hj).1
  obtain ⟨b, o, rfl⟩ := addr_of_cell (h 0 xs[0] (List.getElem?_eq_getElem _))
  refine ⟨b, o, rfl, ?_⟩
  have := h j u hj
  rwa [Addr.add_lit] at this

end Go.Proofs.YtdgnhfhaaghoaaaGreatDoor

set_option linter.unusedVariables false
namespace Go.Proofs.YtdgnhfhaaghoaaaGreatDoor
open Go.RowKit

open Go.ChangeShapes Go.WideShapes Go.ChangeAt in
theorem open_bytes {H : Type} {enc : TypeId × Value → H} {P : Program} {w : World} {base : Nat} {spare : Nat → Bool} {held : Bool} {t e : TypeId} {fuel len cap : Nat} {a : Option Addr} {x : DataW H × List MemPlace}
    (ht : P.underlying t = some (.slice e)) (he : P.underlying e = some (.int .u8)) (hC : P.cellsOf e = 1) (h : DataW.trod enc P w base spare held fuel t (Value.slice a len cap).cells.toList = some x) :
    ∃ A c bs, Value.slice a len cap = .slice A bs.length c ∧ Cells w A (u8s bs) ∧ (∀ x ∈ bs, 0 ≤ x ∧ x < 256) ∧ bs.length ≤ maxLen ∧ bs.length ≤ c := by
  rcases open_ints ht he hC h with ⟨hcs, _⟩ | ⟨x, l, c, zs, hcs, _, hl, hm, hz, _, hcell, hwz⟩
  · simp [Value.cells] at hcs
    obtain ⟨rfl, rfl, rfl⟩ := hcs
    exact ⟨none, 0, [], rfl, Cells.nil _ _, (fun x hx => by cases hx), by unfold maxLen; simp, by simp⟩
  · simp [Value.cells] at hcs
    obtain ⟨rfl, rfl, rfl⟩ := hcs
    have hzl : len ≤ zs.length := by rw [hz]; split <;> omega
    clear hz
    have e1 : (zs.take len).length = len := by rw [List.length_take]; omega
    refine ⟨some x, cap, zs.take len, by rw [e1], Cells.of_add fun j u hj => ?_, fun y hy => ?_, by rw [e1]; omega, by rw [e1]; omega⟩
    · have hjl : j < len := by have := (List.getElem?_eq_some_iff.1 hj).1; simp at this; omega
      have e2 : (u8s (zs.take len))[j]? = some (.int .u8 (zs.getD j 0)) := by
        have hjz : j < zs.length := by omega
        simp [u8s, List.getElem?_take, hjl, hjz, List.getD]
      rw [e2] at hj
      injection hj with hj
      subst hj
      exact hcell j (by omega)
    · have := hwz y (List.mem_of_mem_take hy)
      simp only [Lit.wf, Bool.and_eq_true, decide_eq_true_eq] at this
      rw [show IntKind.u8.min = 0 from rfl, show IntKind.u8.max = 255 from rfl] at this
      omega

end Go.Proofs.YtdgnhfhaaghoaaaGreatDoor

namespace Go.Proofs.YtdgnhfhaaghoaaaGreatDoor
open Go.RowKit

def laidObj (cs : Array Value) : Obj → Obj
  | .cells _ t frozen => .cells cs t frozen
  | o => o

def laidHeap (h : Array Obj) : Array Obj :=
  (((h.modify 2 (laidObj #[.int .u8 0, .int .u8 1, .int .u8 28, .int .u8 2, .int .u8 29, .int .u8 14, .int .u8 24, .int .u8 3, .int .u8 30, .int .u8 22, .int .u8 20, .int .u8 15, .int .u8 25, .int .u8 17, .int .u8 4, .int .u8 8, .int .u8 31, .int .u8 27, .int .u8 13, .int .u8 23, .int .u8 21, .int .u8 19, .int .u8 16, .int .u8 7, .int .u8 26, .int .u8 12, .int .u8 18, .int .u8 6, .int .u8 11, .int .u8 5, .int .u8 10, .int .u8 9])).modify 3 (laidObj #[.int .u8 0, .int .u8 1, .int .u8 56, .int .u8 2, .int .u8 57, .int .u8 49, .int .u8 28, .int .u8 3, .int .u8 61, .int .u8 58, .int .u8 42, .int .u8 50, .int .u8 38, .int .u8 29, .int .u8 17, .int .u8 4, .int .u8 62, .int .u8 47, .int .u8 59, .int .u8 36, .int .u8 45, .int .u8 43, .int .u8 51, .int .u8 22, .int .u8 53, .int .u8 39, .int .u8 33, .int .u8 30, .int .u8 24, .int .u8 18, .int .u8 12, .int .u8 5, .int .u8 63, .int .u8 55, .int .u8 48, .int .u8 27, .int .u8 60, .int .u8 41, .int .u8 37, .int .u8 16, .int .u8 46, .int .u8 35, .int .u8 44, .int .u8 21, .int .u8 52, .int .u8 32, .int .u8 23, .int .u8 11, .int .u8 54, .int .u8 26, .int .u8 40, .int .u8 15, .int .u8 34, .int .u8 20, .int .u8 31, .int .u8 10, .int .u8 25, .int .u8 14, .int .u8 19, .int .u8 9, .int .u8 13, .int .u8 8, .int .u8 7, .int .u8 6])).modify 1 (laidObj #[.int .u64 1, .int .u64 10, .int .u64 100, .int .u64 1000, .int .u64 10000, .int .u64 100000, .int .u64 1000000, .int .u64 10000000, .int .u64 100000000, .int .u64 1000000000, .int .u64 10000000000, .int .u64 100000000000, .int .u64 1000000000000, .int .u64 10000000000000, .int .u64 100000000000000, .int .u64 1000000000000000, .int .u64 10000000000000000, .int .u64 100000000000000000, .int .u64 1000000000000000000, .int .u64 10000000000000000000]))

noncomputable def laidWorld (os : Os) : World :=
  { World.holding Tryz.prog os ⟨#[], #[], []⟩ with heap := laidHeap (World.holding Tryz.prog os ⟨#[], #[], []⟩).heap }

end Go.Proofs.YtdgnhfhaaghoaaaGreatDoor
