/- Elements of the reference: ions: walked. Plain: the inverse of a permutation and of a renaming. -/
import Derived.Test.YtijkdpdmclkmlaaGreatDoorProg
import Derived.Test.YtijkdpdmclkmlaaGreatDoorJ44
import Derived.BigQuiet
import Derived.Test.YtijkdpdmclkmlaaGreatDoorJ29
set_option linter.unusedSimpArgs false
set_option linter.unusedVariables false
set_option linter.unusedSimpArgs false
namespace Go.Proofs.YtijkdpdmclkmlaaGreatDoor
open Go.RowKit

def okI (sig : List Ct) (ct : Int) (names : List ByteArray) : Bool := ionB sig ct names && !(kindA sig ct == 2)

set_option maxRecDepth 100000 in
set_option maxHeartbeats 4000000 in
theorem specIonOf_any (sig : List Ct) (ct : Int) (A : Option Addr) (c : Nat) (names : List ByteArray) (gv : Value) (w : World) (hz : SmallS sig) (hl : names.length ≤ 1000) (hn : ∀ s ∈ names, s.size ≤ 1000) (hS : RSl RCt 3 w gv sig) (hA : Cells w A (strs names)) :
    Calls Tryz.prog 34 #[gv, .int .i64 ct, .slice A names.length c] w fun e w' => ∃ X : BX, e = .returned (.tuple #[.agg X.cells, .bool (okI sig ct names)]) ∧ X.g = (if okI sig ct names then ionG ct names (sortS names) else zeroG) ∧ RG w w' X := by
  have HS := Lib.hid (show ∀ W, Below w.heap.size w W → RSl RCt 3 W gv sig from fun W hb => hS.below RCt_keep hb)
  have HA := Lib.hid (show ∀ W, Below w.heap.size w W → Cells W A (strs names) from fun W hb => hA.below hb)
  obtain ⟨w0, hw0⟩ : ∃ w0, w0 = w.alloc (.cells ZB 31) := ⟨_, rfl⟩
  have hb0 : Below w.heap.size w w0 := by rw [hw0]; exact (Below.refl _ _).alloc (Nat.le_refl _) _
  have hs0 : w0.heap.size = w.heap.size + 1 := by rw [hw0]; simp
  have hR0 : w0.heap[w.heap.size]? = some (.cells ZB 31) := by rw [hw0]; exact heap_alloc_new _ _
  have HB0 := Lib.hid hb0
  have HR0 := Lib.hid hR0
  have H1 := Lib.hid (l3Ion_any sig ct A c names gv w0 hz hl hn (HS.out w0 hb0) (HA.out w0 hb0))
  have HW0 := Lib.hid (show w.alloc (.cells #[.int .i64 0, .slice none 0 0, .slice none 0 0, .int .i64 0, .slice none 0 0, .slice none 0 0] 31) = w0 from hw0.symm)
  clear hb0 hR0 hw0
  have hsl := hz.len
  have HPT := Lib.hid (show okI sig ct names = (ionB sig ct names && !(kindA sig ct == 2)) from rfl)
  obtain ⟨AG, cG, rfl, _⟩ := hS.form
  clear hS hA hn hz
  cases c0 : ionB sig ct names
  · have HE := Lib.hid (show okI sig ct names = false from by rw [HPT.out, c0]; rfl)
    rw [c0] at H1
    rw [HE.out]
    clear c0
    go_enter Tryz.func34, Tryz.ntmps34
    go_wp2_with fail
    rw [HW0.out]
    (with_reducible refine H1.out.mono ?_)
    rintro e w1 ⟨rfl, hb1⟩
    have HB1 := Lib.hid hb1
    clear hb1
    have hRW := (HB1.out.block w.heap.size (by omega)).trans HR0.out
    have z0 : World.cell? w1 ⟨w.heap.size, 0, none⟩ = some (.int .i64 0) := cell_of_row _ _ 0 _ _ _ hRW
    have f0 := frozen_of_row w1 _ 0 _ _ hRW
    have z1 : World.cell? w1 ⟨w.heap.size, 1, none⟩ = some (.slice none 0 0) := cell_of_row _ _ 1 _ _ _ hRW
    have f1 := frozen_of_row w1 _ 1 _ _ hRW
    have z2 : World.cell? w1 ⟨w.heap.size, 2, none⟩ = some (.slice none 0 0) := cell_of_row _ _ 2 _ _ _ hRW
    have f2 := frozen_of_row w1 _ 2 _ _ hRW
    have z3 : World.cell? w1 ⟨w.heap.size, 3, none⟩ = some (.int .i64 0) := cell_of_row _ _ 3 _ _ _ hRW
    have f3 := frozen_of_row w1 _ 3 _ _ hRW
    have z4 : World.cell? w1 ⟨w.heap.size, 4, none⟩ = some (.slice none 0 0) := cell_of_row _ _ 4 _ _ _ hRW
    have f4 := frozen_of_row w1 _ 4 _ _ hRW
    have z5 : World.cell? w1 ⟨w.heap.size, 5, none⟩ = some (.slice none 0 0) := cell_of_row _ _ 5 _ _ _ hRW
    have f5 := frozen_of_row w1 _ 5 _ _ hRW
    clear hRW
    go_wp2_with fail
    have hf := fin6_of (X := zeroX) HB0.out HR0.out (by have := (Kept.of_below HB1.out (fun q => w.heap.size + 1 ≤ q)).size; omega) ((Kept.of_below HB1.out (fun q => w.heap.size + 1 ≤ q))) (zero_ob _ _)
    (try simp only [Exit.inBlock, Exit.then])
    refine bodyPost_ret (rcell2 rfl _ _ w.heap.size _ _ _ _ rfl hf.1 Tryz.underlying31 rfl (by kernel_rfl)) rfl ?_
    exact ⟨_, rfl, rfl, hf.2⟩
  · have hin : inB ct 0 ((sig.length : Int) - 1) = true := by
      unfold ionB at c0
      simp only [Bool.and_eq_true] at c0
      exact c0.1.1.2
    obtain ⟨z0', z1'⟩ := inB_true hin
    obtain ⟨m, rfl⟩ := Int.eq_ofNat_of_zero_le z0'
    have hml : m < sig.length := by omega
    have HPO := Lib.hid (show kindA sig (m : Int) = sig[m].2.2 from by unfold kindA; rw [Int.toNat_natCast, ctA_get hml])
    rw [HPO.out, c0] at HPT
    rw [c0] at H1
    have q0 : (0 : Int) ≤ (m : Int) := by omega
    have q1 : (m : Int) < (sig.length : Int) := by omega
    clear c0 hin z0' z1'
    cases c1 : (sig[m].2.2 == 2)
    · have HE := Lib.hid (show okI sig (m : Int) names = true from by rw [HPT.out, c1]; rfl)
      rw [HE.out]
      go_enter Tryz.func34, Tryz.ntmps34
      go_wp2_with fail
      rw [HW0.out]
      (with_reducible refine H1.out.mono ?_)
      rintro e w1 ⟨rfl, hb1⟩
      obtain ⟨b', o', c', eS, _, _, s2⟩ := ct_at (HS.out w1 (HB0.out.trans (hb1.mono HB0.out.size))) hml
      cases eS
      have HAT := Lib.hid (l3Atom_any (m : Int) A c names w1 hl (HA.out w1 (HB0.out.trans (hb1.mono HB0.out.size))))
      have HB1 := Lib.hid hb1
      have hs1 := hb1.size
      obtain ⟨y, hy⟩ : ∃ y, y = sig[m].2.2 := ⟨_, rfl⟩
      rw [← hy] at s2 c1
      clear hb1 hy
      go_wp2_with fail
      (with_reducible refine HAT.out.mono ?_)
      rintro e w2 ⟨X, rfl, hXg, hr⟩
      obtain ⟨xr, xe, xnv, xsv, xov, xiv, xns, xls, xss, xos, xis⟩ := X
      obtain ⟨AN, cN, AS, cS, AO, cO, AI, cI, e1, e2, e3, e4⟩ := hr.ob.form
      dsimp only at e1 e2 e3 e4
      subst e1 e2 e3 e4
      have HXG := Lib.hid hXg
      have hs2 := hr.bel.size
      have HB2 := Lib.hid (HB1.out.trans (hr.bel.mono HB1.out.size))
      have HR := Lib.hid hr
      clear hXg hr HAT s2 H1
      simp only [BX.cells]
      obtain ⟨wN, hwN⟩ : ∃ wN, wN = w2.alloc (.cells #[.int .i64 xr, .slice AN xns.length cN, .slice AS xss.length cS, .int .i64 xe, .slice AO xos.length cO, .slice AI xis.length cI] 31) := ⟨_, rfl⟩
      have hbn : Below w2.heap.size w2 wN := by rw [hwN]; exact (Below.refl _ _).alloc (Nat.le_refl _) _
      have HG0 := Lib.hid (gt_of_rg HR.out (show w.heap.size + 1 ≤ w1.heap.size by omega) (wN := wN) hwN)
      have hsN : wN.heap.size = w2.heap.size + 1 := by rw [hwN]; simp
      have HBN := Lib.hid (HB0.out.trans ((HB2.out.trans (hbn.mono HB2.out.size)).mono HB0.out.size))
      have HRN := Lib.hid (((HB2.out.trans (hbn.mono HB2.out.size)).block w.heap.size (by omega)).trans HR0.out)
      have HWN := Lib.hid hwN
      obtain ⟨w5, hw5⟩ : ∃ w5, w5 = wN.alloc (.cells #[.int .i64 0] 3) := ⟨_, rfl⟩
      have HG1 := Lib.hid (show GT wN (w.heap.size + 1) w2.heap.size (BX.cells ⟨xr, xe, .slice AN xns.length cN, .slice AS xss.length cS, .slice AO xos.length cO, .slice AI xis.length cI, xns, xls, xss, xos, xis⟩) ⟨xr, xe, .slice AN xns.length cN, .slice (some ⟨w2.heap.size + 1, 0, none⟩) 1 1, .slice AO xos.length cO, .slice AI xis.length cI, xns, xls, [0], xos, xis⟩ w5 from by rw [hw5, ← hsN]; exact HG0.out.newS [0] (by decide) (by omega))
      have HW5 := Lib.hid hw5
      have y2 := HG1.out.cell (f := 2) (u := .slice AS xss.length cS) rfl
      have g2 := frozen_of_row w5 w2.heap.size 2 _ _ HG1.out.box
      have HG := Lib.hid (HG1.out.put 2 (.slice (some ⟨w2.heap.size + 1, 0, none⟩) 1 1))
      have hw2P : w.heap.size < w2.heap.size := by omega
      clear hwN hbn hw5
      have x0 := HG.out.cell (f := 0) (u := .int .i64 xr) rfl
      have x1 := HG.out.cell (f := 1) (u := .slice AN xns.length cN) rfl
      have x2 := HG.out.cell (f := 2) (u := .slice (some ⟨w2.heap.size + 1, 0, none⟩) 1 1) rfl
      have x3 := HG.out.cell (f := 3) (u := .int .i64 xe) rfl
      have x4 := HG.out.cell (f := 4) (u := .slice AO xos.length cO) rfl
      have x5 := HG.out.cell (f := 5) (u := .slice AI xis.length cI) rfl
      have hRW := (HG.out.k.block w.heap.size (by have := (Array.getElem?_eq_some_iff.1 HRN.out).1; exact this) (by omega)).trans HRN.out
      have z0 : World.cell? _ ⟨w.heap.size, 0, none⟩ = some (.int .i64 0) := cell_of_row _ _ 0 _ _ _ hRW
      have f0 := frozen_of_row _ _ 0 _ _ hRW
      have z1 : World.cell? _ ⟨w.heap.size, 1, none⟩ = some (.slice none 0 0) := cell_of_row _ _ 1 _ _ _ hRW
      have f1 := frozen_of_row _ _ 1 _ _ hRW
      have z2 : World.cell? _ ⟨w.heap.size, 2, none⟩ = some (.slice none 0 0) := cell_of_row _ _ 2 _ _ _ hRW
      have f2 := frozen_of_row _ _ 2 _ _ hRW
      have z3 : World.cell? _ ⟨w.heap.size, 3, none⟩ = some (.int .i64 0) := cell_of_row _ _ 3 _ _ _ hRW
      have f3 := frozen_of_row _ _ 3 _ _ hRW
      have z4 : World.cell? _ ⟨w.heap.size, 4, none⟩ = some (.slice none 0 0) := cell_of_row _ _ 4 _ _ _ hRW
      have f4 := frozen_of_row _ _ 4 _ _ hRW
      have z5 : World.cell? _ ⟨w.heap.size, 5, none⟩ = some (.slice none 0 0) := cell_of_row _ _ 5 _ _ _ hRW
      have f5 := frozen_of_row _ _ 5 _ _ hRW
      clear hRW
      go_wp2_with (first | rw [← HWN.out] | rw [← HW5.out])
      have hf := fin6 HBN.out HRN.out (by omega) HG.out
      (try simp only [Exit.inBlock, Exit.then])
      refine bodyPost_ret (rcell2 rfl _ _ w.heap.size _ _ _ _ rfl hf.1 Tryz.underlying31 rfl (by kernel_rfl)) rfl ?_
      exact ⟨_, rfl, (by first | exact ion_of HXG.out | (rw [if_pos rfl]; exact ion_of HXG.out)), hf.2⟩
    · have HE := Lib.hid (show okI sig (m : Int) names = false from by rw [HPT.out, c1]; rfl)
      rw [HE.out]
      go_enter Tryz.func34, Tryz.ntmps34
      go_wp2_with fail
      rw [HW0.out]
      (with_reducible refine H1.out.mono ?_)
      rintro e w1 ⟨rfl, hb1⟩
      obtain ⟨b', o', c', eS, _, _, s2⟩ := ct_at (HS.out w1 (HB0.out.trans (hb1.mono HB0.out.size))) hml
      cases eS
      have HB1 := Lib.hid hb1
      obtain ⟨y, hy⟩ : ∃ y, y = sig[m].2.2 := ⟨_, rfl⟩
      rw [← hy] at s2 c1
      clear hb1 hy
      have hRW := (HB1.out.block w.heap.size (by omega)).trans HR0.out
      have z0 : World.cell? w1 ⟨w.heap.size, 0, none⟩ = some (.int .i64 0) := cell_of_row _ _ 0 _ _ _ hRW
      have f0 := frozen_of_row w1 _ 0 _ _ hRW
      have z1 : World.cell? w1 ⟨w.heap.size, 1, none⟩ = some (.slice none 0 0) := cell_of_row _ _ 1 _ _ _ hRW
      have f1 := frozen_of_row w1 _ 1 _ _ hRW
      have z2 : World.cell? w1 ⟨w.heap.size, 2, none⟩ = some (.slice none 0 0) := cell_of_row _ _ 2 _ _ _ hRW
      have f2 := frozen_of_row w1 _ 2 _ _ hRW
      have z3 : World.cell? w1 ⟨w.heap.size, 3, none⟩ = some (.int .i64 0) := cell_of_row _ _ 3 _ _ _ hRW
      have f3 := frozen_of_row w1 _ 3 _ _ hRW
      have z4 : World.cell? w1 ⟨w.heap.size, 4, none⟩ = some (.slice none 0 0) := cell_of_row _ _ 4 _ _ _ hRW
      have f4 := frozen_of_row w1 _ 4 _ _ hRW
      have z5 : World.cell? w1 ⟨w.heap.size, 5, none⟩ = some (.slice none 0 0) := cell_of_row _ _ 5 _ _ _ hRW
      have f5 := frozen_of_row w1 _ 5 _ _ hRW
      clear hRW
      go_wp2_with fail
      have hf := fin6_of (X := zeroX) HB0.out HR0.out (by have := (Kept.of_below HB1.out (fun q => w.heap.size + 1 ≤ q)).size; omega) ((Kept.of_below HB1.out (fun q => w.heap.size + 1 ≤ q))) (zero_ob _ _)
      (try simp only [Exit.inBlock, Exit.then])
      refine bodyPost_ret (rcell2 rfl _ _ w.heap.size _ _ _ _ rfl hf.1 Tryz.underlying31 rfl (by kernel_rfl)) rfl ?_
      exact ⟨_, rfl, rfl, hf.2⟩

end Go.Proofs.YtijkdpdmclkmlaaGreatDoor

set_option linter.unusedVariables false
namespace Go.Proofs.YtijkdpdmclkmlaaGreatDoor
open Go.RowKit

/-- The inverse of a permutation: at each place that a number stands. -/
def invL (n : Nat) (t : List Int) : List Int := (List.range n).foldl (fun o i => o.set (t.getD i 0).toNat (i : Int)) (List.replicate n 0)
theorem inv_fold {n : Nat} {t : List Int} (ht : OrdP n t) : ∀ (k : Nat), k ≤ n → ((List.range k).foldl (fun o i => o.set (t.getD i 0).toNat (i : Int)) (List.replicate n 0)).length = n ∧ ∀ i, i < k → ((List.range k).foldl (fun o i => o.set (t.getD i 0).toNat (i : Int)) (List.replicate n 0)).getD (t.getD i 0).toNat 0 = (i : Int)
  | 0, _ => ⟨by simp, fun i hi => by omega⟩
  | k + 1, hk => by
    obtain ⟨h1, h2⟩ := inv_fold ht k (by omega)
    have hl := ht.1
    rw [List.range_succ, List.foldl_append]
    simp only [List.foldl_cons, List.foldl_nil]
    generalize hO : (List.range k).foldl (fun o i => o.set (t.getD i 0).toNat (i : Int)) (List.replicate n 0) = O at *
    have hb : ∀ i, i < n → 0 ≤ t.getD i 0 ∧ t.getD i 0 < n := fun i hi => ord_lt ht (List.mem_of_getElem? (getD_lt (by omega)))
    refine ⟨by rw [List.length_set]; exact h1, fun i hi => ?_⟩
    have hk1 := hb k (by omega)
    have hi1 := hb i (by omega)
    by_cases he : i = k
    · subst he
      rw [List.getD_eq_getElem?_getD, List.getElem?_set_self (by omega)]
      rfl
    · have hne : (t.getD k 0).toNat ≠ (t.getD i 0).toNat := fun e => he (ord_inj ht (by omega) (by omega) (by omega))
      rw [List.getD_eq_getElem?_getD, List.getElem?_set_ne hne, ← List.getD_eq_getElem?_getD]
      exact h2 i (by omega)
theorem inv_len {n : Nat} {t : List Int} (ht : OrdP n t) : (invL n t).length = n := (inv_fold ht n (Nat.le_refl _)).1
theorem inv_at {n : Nat} {t : List Int} (ht : OrdP n t) {i : Nat} (hi : i < n) : (invL n t).getD (t.getD i 0).toNat 0 = (i : Int) := (inv_fold ht n (Nat.le_refl _)).2 i hi
theorem inv_ord {n : Nat} {t : List Int} (ht : OrdP n t) : OrdP n (invL n t) := by
  refine ⟨by rw [inv_len ht], fun x h0 h1 => ?_⟩
  have hi : x.toNat < n := by omega
  have e := inv_at ht hi
  have hl := ht.1
  have hb := ord_lt ht (List.mem_of_getElem? (getD_lt (d := 0) (show x.toNat < t.length by omega)))
  rw [show x = ((x.toNat : Nat) : Int) by omega, ← e]
  exact List.mem_of_getElem? (getD_lt (by rw [inv_len ht]; omega))
/-- A renaming: no places, no edges, each outer name has one inner name. -/
structure RenP (sig : List Ct) (g : Gr) : Prop where
  good : GoodP sig g
  r0 : g.roots = 0
  e0 : g.edges = 0
  one : ∀ i, i < g.outer.length → ((List.range g.inner.length).filter fun k => (wiA g k).2 == (i : Int)).length = 1
section
variable {sig : List Ct} {g : Gr}
theorem no_places (hg : GoodP sig g) (h0 : g.roots = 0) : g.nodes = [] ∧ g.sites = [] := by
  have hn : g.nodes.length = 0 := by
    rcases Nat.eq_zero_or_pos g.nodes.length with h | h
    · exact h
    · exfalso
      have b2 : UnderP sig g (nodA g 0).2.1 0 := (hg.nod 0 _ (getD_lt (d := nod0) h)).2.1
      have h1 := b2.1
      have h2 := b2.2
      by_cases hp : (nodA g 0).2.1 < 0
      · have := h1 hp; omega
      · have := (h2 (by omega)).1; omega
  refine ⟨List.length_eq_zero_iff.1 hn, ?_⟩
  rcases Nat.eq_zero_or_pos g.sites.length with h | h
  · exact List.length_eq_zero_iff.1 h
  · exfalso
    have b2 := hg.sit _ (List.mem_of_getElem? (getD_lt (d := 0) h))
    by_cases hp : g.sites.getD 0 0 < 0
    · have := b2.1 hp; omega
    · have := (b2.2 (by omega)).1; omega
end

end Go.Proofs.YtijkdpdmclkmlaaGreatDoor
