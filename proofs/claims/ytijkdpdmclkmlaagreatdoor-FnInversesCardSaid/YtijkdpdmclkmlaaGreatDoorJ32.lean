/- Elements of the reference: ions: walked. Plain: the inverse of a permutation and of a renaming. -/
import Derived.Test.YtijkdpdmclkmlaaGreatDoorProg
import Derived.Test.YtijkdpdmclkmlaaGreatDoorJ0
import Derived.Test.YtijkdpdmclkmlaaGreatDoorJ31
import Derived.BigQuiet
import Derived.Test.YtijkdpdmclkmlaaGreatDoorJ22
set_option linter.unusedSimpArgs false
set_option linter.unusedVariables false
set_option maxRecDepth 100000
set_option maxHeartbeats 16000000
namespace Go.Proofs.YtijkdpdmclkmlaaGreatDoor
open Go.RowKit
def okI (sig : List Ct) (ct : Int) (names : List ByteArray) : Bool := ionB sig ct names && !(kindA sig ct == 2)

theorem specIonOf_any (sig : List Ct) (ct : Int) (A : Option Addr) (c : Nat) (names : List ByteArray) (gv : Value) (w : World) (hz : SmallS sig) (hl : names.length ≤ 1000) (hn : ∀ s ∈ names, s.size ≤ 1000) (hS : RSl RCt 3 w gv sig) (hA : Cells w A (strs names)) :
    Calls Tryz.prog 34 #[gv, .int .i64 ct, .slice A names.length c] w fun e w' => ∃ X : BX, e = .returned (.tuple #[.agg X.cells, .bool (okI sig ct names)]) ∧ X.g = (if okI sig ct names then ionG ct names (sortS names) else zeroG) ∧ RG w w' X := by
  have HS := Lib.hid (show ∀ W, Below w.heap.size w W → RSl RCt 3 W gv sig from fun W hb => hS.below RCt_keep hb)
  have HA := Lib.hid (show ∀ W, Below w.heap.size w W → Cells W A (strs names) from fun W hb => hA.below hb)
  obtain ⟨w0, hw0, hb0, hs0, hR0⟩ := laid1 w (.cells ZB 31)
  have HB0 := Lib.hid hb0
  have HR0 := Lib.hid hR0
  have H1 := Lib.hid (l3Ion_any sig ct A c names gv w0 hz hl hn (HS.out w0 hb0) (HA.out w0 hb0))
  have HW0 := Lib.hid (show w.alloc (.cells #[.int .i64 0, .slice none 0 0, .slice none 0 0, .int .i64 0, .slice none 0 0, .slice none 0 0] 31) = w0 from hw0.symm)
  clear hb0 hR0 hw0
  have hsl := hz.len
  have HPT := Lib.hid (show okI sig ct names = (ionB sig ct names && !(kindA sig ct == 2)) from rfl)
  obtain ⟨AG, cG, rfl, _⟩ := hS.form
  clear hS hA hn hz
  cases c0 : ionB sig ct names
  · have HE := Lib.hid (show okI sig ct names = false from by rw [HPT.out, c0]; rfl)
    rw [c0] at H1
    rw [HE.out]
    clear c0
    go_enter Tryz.func34, Tryz.ntmps34
    go_wp2_with fail
    rw [HW0.out]
    (with_reducible refine H1.out.mono ?_)
    rintro e w1 ⟨rfl, hb1⟩
    have HB1 := Lib.hid hb1
    clear hb1
    have hRW := (HB1.out.block w.heap.size (by omega)).trans HR0.out
    obtain ⟨z0, z1, z2, z3, z4, z5, f0, f1, f2, f3, f4, f5⟩ := row6f hRW
    clear hRW
    go_wp2_with fail
    have hf := fin6_of (X := zeroX) HB0.out HR0.out (by have := (Kept.of_below HB1.out (fun q => w.heap.size + 1 ≤ q)).size; omega) ((Kept.of_below HB1.out (fun q => w.heap.size + 1 ≤ q))) (zero_ob _ _)
    (try simp only [Exit.inBlock, Exit.then])
    refine bodyPost_ret (rcell2 rfl _ _ w.heap.size _ _ _ _ rfl hf.1 Tryz.underlying31 rfl (by kernel_rfl)) rfl ?_
    exact ⟨_, rfl, rfl, hf.2⟩
  have hin : inB ct 0 ((sig.length : Int) - 1) = true := by
    unfold ionB at c0
    simp only [Bool.and_eq_true] at c0
    exact c0.1.1.2
  obtain ⟨z0', z1'⟩ := inB_true hin
  obtain ⟨m, rfl⟩ := Int.eq_ofNat_of_zero_le z0'
  have hml : m < sig.length := by omega
  have HPO := Lib.hid (show kindA sig (m : Int) = sig[m].2.2 from by unfold kindA; rw [Int.toNat_natCast, ctA_get hml])
  rw [HPO.out, c0] at HPT
  rw [c0] at H1
  have q0 : (0 : Int) ≤ (m : Int) := by omega
  have q1 : (m : Int) < (sig.length : Int) := by omega
  clear c0 hin z0' z1'
  cases c1 : (sig[m].2.2 == 2)
  · have HE := Lib.hid (show okI sig (m : Int) names = true from by rw [HPT.out, c1]; rfl)
    rw [HE.out]
    go_enter Tryz.func34, Tryz.ntmps34
    go_wp2_with fail
    rw [HW0.out]
    (with_reducible refine H1.out.mono ?_)
    rintro e w1 ⟨rfl, hb1⟩
    obtain ⟨b', o', c', eS, _, _, s2⟩ := ct_at (HS.out w1 (HB0.out.trans (hb1.mono HB0.out.size))) hml
    cases eS
    have HAT := Lib.hid (l3Atom_any (m : Int) A c names w1 hl (HA.out w1 (HB0.out.trans (hb1.mono HB0.out.size))))
    have HB1 := Lib.hid hb1
    have hs1 := hb1.size
    obtain ⟨y, hy⟩ : ∃ y, y = sig[m].2.2 := ⟨_, rfl⟩
    rw [← hy] at s2 c1
    clear hb1 hy
    go_wp2_with fail
    (with_reducible refine HAT.out.mono ?_)
    rintro e w2 ⟨X, rfl, hXg, hr⟩
    obtain ⟨xr, xe, xnv, xsv, xov, xiv, xns, xls, xss, xos, xis⟩ := X
    obtain ⟨AN, cN, AS, cS, AO, cO, AI, cI, e1, e2, e3, e4⟩ := hr.ob.form
    dsimp only at e1 e2 e3 e4
    subst e1 e2 e3 e4
    have HXG := Lib.hid hXg
    have hs2 := hr.bel.size
    have HB2 := Lib.hid (HB1.out.trans (hr.bel.mono HB1.out.size))
    have HR := Lib.hid hr
    clear hXg hr HAT s2 H1
    simp only [BX.cells]
    obtain ⟨wN, hwN, hbn, hsN, -⟩ := laid1 w2 (.cells #[.int .i64 xr, .slice AN xns.length cN, .slice AS xss.length cS, .int .i64 xe, .slice AO xos.length cO, .slice AI xis.length cI] 31)
    have HG0 := Lib.hid (gt_of_rg HR.out (show w.heap.size + 1 ≤ w1.heap.size by omega) (wN := wN) hwN)
    have HBN := Lib.hid (HB0.out.trans ((HB2.out.trans (hbn.mono HB2.out.size)).mono HB0.out.size))
    have HRN := Lib.hid (((HB2.out.trans (hbn.mono HB2.out.size)).block w.heap.size (by omega)).trans HR0.out)
    have HWN := Lib.hid hwN
    obtain ⟨w5, hw5⟩ : ∃ w5, w5 = wN.alloc (.cells #[.int .i64 0] 3) := ⟨_, rfl⟩
    have HG1 := Lib.hid (show GT wN (w.heap.size + 1) w2.heap.size (BX.cells ⟨xr, xe, .slice AN xns.length cN, .slice AS xss.length cS, .slice AO xos.length cO, .slice AI xis.length cI, xns, xls, xss, xos, xis⟩) ⟨xr, xe, .slice AN xns.length cN, .slice (some ⟨w2.heap.size + 1, 0, none⟩) 1 1, .slice AO xos.length cO, .slice AI xis.length cI, xns, xls, [0], xos, xis⟩ w5 from by rw [hw5, ← hsN]; exact HG0.out.newS [0] (by decide) (by omega))
    have HW5 := Lib.hid hw5
    have y2 := HG1.out.cell (f := 2) (u := .slice AS xss.length cS) rfl
    have g2 := frozen_of_row w5 w2.heap.size 2 _ _ HG1.out.box
    have HG := Lib.hid (HG1.out.put 2 (.slice (some ⟨w2.heap.size + 1, 0, none⟩) 1 1))
    have hw2P : w.heap.size < w2.heap.size := by omega
    clear hwN hbn hw5
    have x0 := HG.out.cell (f := 0) (u := .int .i64 xr) rfl
    have x1 := HG.out.cell (f := 1) (u := .slice AN xns.length cN) rfl
    have x2 := HG.out.cell (f := 2) (u := .slice (some ⟨w2.heap.size + 1, 0, none⟩) 1 1) rfl
    have x3 := HG.out.cell (f := 3) (u := .int .i64 xe) rfl
    have x4 := HG.out.cell (f := 4) (u := .slice AO xos.length cO) rfl
    have x5 := HG.out.cell (f := 5) (u := .slice AI xis.length cI) rfl
    have hRW := (HG.out.k.block w.heap.size (by have := (Array.getElem?_eq_some_iff.1 HRN.out).1; exact this) (by omega)).trans HRN.out
    obtain ⟨z0, z1, z2, z3, z4, z5, f0, f1, f2, f3, f4, f5⟩ := row6f hRW
    clear hRW
    go_wp2_with (first | rw [← HWN.out] | rw [← HW5.out])
    have hf := fin6 HBN.out HRN.out (by omega) HG.out
    (try simp only [Exit.inBlock, Exit.then])
    refine bodyPost_ret (rcell2 rfl _ _ w.heap.size _ _ _ _ rfl hf.1 Tryz.underlying31 rfl (by kernel_rfl)) rfl ?_
    exact ⟨_, rfl, (by first | exact ion_of HXG.out | (rw [if_pos rfl]; exact ion_of HXG.out)), hf.2⟩
  have HE := Lib.hid (show okI sig (m : Int) names = false from by rw [HPT.out, c1]; rfl)
  rw [HE.out]
  go_enter Tryz.func34, Tryz.ntmps34
  go_wp2_with fail
  rw [HW0.out]
  (with_reducible refine H1.out.mono ?_)
  rintro e w1 ⟨rfl, hb1⟩
  obtain ⟨b', o', c', eS, _, _, s2⟩ := ct_at (HS.out w1 (HB0.out.trans (hb1.mono HB0.out.size))) hml
  cases eS
  have HB1 := Lib.hid hb1
  obtain ⟨y, hy⟩ : ∃ y, y = sig[m].2.2 := ⟨_, rfl⟩
  rw [← hy] at s2 c1
  clear hb1 hy
  have hRW := (HB1.out.block w.heap.size (by omega)).trans HR0.out
  obtain ⟨z0, z1, z2, z3, z4, z5, f0, f1, f2, f3, f4, f5⟩ := row6f hRW
  clear hRW
  go_wp2_with fail
  have hf := fin6_of (X := zeroX) HB0.out HR0.out (by have := (Kept.of_below HB1.out (fun q => w.heap.size + 1 ≤ q)).size; omega) ((Kept.of_below HB1.out (fun q => w.heap.size + 1 ≤ q))) (zero_ob _ _)
  (try simp only [Exit.inBlock, Exit.then])
  refine bodyPost_ret (rcell2 rfl _ _ w.heap.size _ _ _ _ rfl hf.1 Tryz.underlying31 rfl (by kernel_rfl)) rfl ?_
  exact ⟨_, rfl, rfl, hf.2⟩

/-- The inverse of a permutation: at each place that a number stands. -/
def invL (n : Nat) (t : List Int) : List Int := (List.range n).foldl (fun o i => o.set (t.getD i 0).toNat (i : Int)) (List.replicate n 0)
theorem inv_fold {n : Nat} {t : List Int} (ht : OrdP n t) : ∀ (k : Nat), k ≤ n → ((List.range k).foldl (fun o i => o.set (t.getD i 0).toNat (i : Int)) (List.replicate n 0)).length = n ∧ ∀ i, i < k → ((List.range k).foldl (fun o i => o.set (t.getD i 0).toNat (i : Int)) (List.replicate n 0)).getD (t.getD i 0).toNat 0 = (i : Int)
 | 0, _ => ⟨by simp, fun i hi => by omega⟩
 | k + 1, hk => by
  obtain ⟨h1, h2⟩ := inv_fold ht k (by omega)
  have hl := ht.1
  rw [List.range_succ, List.foldl_append]
  simp only [List.foldl_cons, List.foldl_nil]
  generalize hO : (List.range k).foldl (fun o i => o.set (t.getD i 0).toNat (i : Int)) (List.replicate n 0) = O at *
  have hb : ∀ i, i < n → 0 ≤ t.getD i 0 ∧ t.getD i 0 < n := fun i hi => ord_lt ht (List.mem_of_getElem? (getD_lt (by omega)))
  refine ⟨by rw [List.length_set]; exact h1, fun i hi => ?_⟩
  have hk1 := hb k (by omega)
  have hi1 := hb i (by omega)
  by_cases he : i = k
  ·subst he
   rw [List.getD_eq_getElem?_getD, List.getElem?_set_self (by omega)]
   rfl
  have hne : (t.getD k 0).toNat ≠ (t.getD i 0).toNat := fun e => he (ord_inj ht (by omega) (by omega) (by omega))
  rw [List.getD_eq_getElem?_getD, List.getElem?_set_ne hne, ← List.getD_eq_getElem?_getD]
  exact h2 i (by omega)
theorem inv_len {n : Nat} {t : List Int} (ht : OrdP n t) : (invL n t).length = n := (inv_fold ht n (Nat.le_refl _)).1
theorem inv_at {n : Nat} {t : List Int} (ht : OrdP n t) {i : Nat} (hi : i < n) : (invL n t).getD (t.getD i 0).toNat 0 = (i : Int) := (inv_fold ht n (Nat.le_refl _)).2 i hi
theorem inv_ord {n : Nat} {t : List Int} (ht : OrdP n t) : OrdP n (invL n t) := by
 refine ⟨by rw [inv_len ht], fun x h0 h1 => ?_⟩
 have hi : x.toNat < n := by omega
 have e := inv_at ht hi
 have hl := ht.1
 have hb := ord_lt ht (List.mem_of_getElem? (getD_lt (d := 0) (show x.toNat < t.length by omega)))
 rw [show x = ((x.toNat : Nat) : Int) by omega, ← e]
 exact List.mem_of_getElem? (getD_lt (by rw [inv_len ht]; omega))
theorem inv_left {n : Nat} {t : List Int} (ht : OrdP n t) : t.map (atI (invL n t)) = upto 0 n := by
 have hl := ht.1
 apply List.ext_getElem
 ·simp [upto]; omega
 intro i h1 h2
 have hi : i < t.length := by simpa using h1
 have e1 : t.getD i 0 = t[i] := getD_some (List.getElem?_eq_getElem hi)
 have e := inv_at ht (show i < n by omega)
 rw [e1] at e
 simp only [List.getElem_map]
 unfold atI
 rw [e]
 simp [upto]
theorem inv_right {n : Nat} {t : List Int} (ht : OrdP n t) : (invL n t).map (atI t) = upto 0 n := by
 have hl := ht.1
 apply List.ext_getElem
 ·rw [List.length_map, inv_len ht]; simp [upto]
 intro r h1 h2
 have hr : r < n := by rw [List.length_map, inv_len ht] at h1; exact h1
 have hm := ht.2 (r : Int) (by omega) (by omega)
 obtain ⟨i, hi, e⟩ := List.getElem_of_mem hm
 have e1 : t.getD i 0 = (r : Int) := getD_some (by rw [List.getElem?_eq_getElem hi, e])
 have e2 := inv_at ht (show i < n by omega)
 rw [e1, show ((r : Int)).toNat = r by omega] at e2
 have hr2 : r < (invL n t).length := by rw [inv_len ht]; exact hr
 have e3 : (invL n t)[r] = (i : Int) := by rw [← e2]; exact (getD_some (List.getElem?_eq_getElem hr2)).symm
 simp only [List.getElem_map, e3]
 unfold atI
 rw [show ((i : Int)).toNat = i by omega, e1]
 simp [upto]
theorem inv_inv {n : Nat} {t : List Int} (ht : OrdP n t) : invL n (invL n t) = t := by
 have hl := ht.1
 have hi := inv_ord ht
 apply List.ext_getElem
 ·rw [inv_len hi]; omega
 intro r h1 h2
 have hb := ord_lt ht (List.getElem_mem h2)
 have e1 : t.getD r 0 = t[r] := getD_some (List.getElem?_eq_getElem h2)
 have e2 := inv_at ht (show r < n by omega)
 have e3 := inv_at hi (show (t.getD r 0).toNat < n by rw [e1]; omega)
 rw [e2, show ((r : Int)).toNat = r by omega, e1] at e3
 have e4 : (invL n (invL n t)).getD r 0 = (invL n (invL n t))[r] := getD_some (List.getElem?_eq_getElem h1)
 rw [← e4, e3]
 omega
theorem perm_inv_left {t : List Int} (ht : OrdP t.length t) : compG (permG (invL t.length t)) (permG t) = idG t.length [] := by
 rw [perm_comp (by rw [inv_len ht]) (fun r hr => by have := ord_lt ht hr; rw [inv_len ht]; exact this), inv_left ht, perm_id]
theorem perm_inv_right {t : List Int} (ht : OrdP t.length t) : compG (permG t) (permG (invL t.length t)) = idG t.length [] := by
 rw [perm_comp (by rw [inv_len ht]) (fun r hr => ord_lt (inv_ord ht) hr), inv_right ht, perm_id]
theorem perm_of {g : Gr} (hp : placB g = true) (hr : (g.sites.length : Int) = g.roots) : g = permG (undG g) := by
 unfold placB at hp
 simp only [Bool.and_eq_true, decide_eq_true_eq, List.length_eq_zero_iff] at hp
 obtain ⟨⟨⟨h1, h2⟩, h3⟩, h4⟩ := hp
 refine gr_ext _ _ ?_ h1 ?_ h2 h3 h4
 ·show g.roots = ((undG g).length : Int)
  simp [undG]; omega
 show g.sites = (undG g).map fun r => -1 - r
 unfold undG
 rw [List.map_map]
 have : ((fun r => -1 - r) ∘ fun p : Int => -1 - p) = id := by funext p; simp only [Function.comp, id]; omega
 rw [this, List.map_id]
/-- The inverse of a renaming. -/
def lksW (g : Gr) : List Int := g.inner.map fun w => w.2
def invW (g : Gr) : Gr := ⟨0, [], [], 0, innerN g, (List.range g.outer.length).map fun i : Nat => (g.outer.getD i default, (invL g.outer.length (lksW g)).getD i 0)⟩
/-- A renaming: no places, no edges, each outer name has one inner name. -/
structure RenP (sig : List Ct) (g : Gr) : Prop where
 good : GoodP sig g
 r0 : g.roots = 0
 e0 : g.edges = 0
 one : ∀ i, i < g.outer.length → ((List.range g.inner.length).filter fun k => (wiA g k).2 == (i : Int)).length = 1
section
variable {sig : List Ct} {g : Gr}
theorem no_places (hg : GoodP sig g) (h0 : g.roots = 0) : g.nodes = [] ∧ g.sites = [] := by
 have hn : g.nodes.length = 0 := by
  rcases Nat.eq_zero_or_pos g.nodes.length with h | h
  ·exact h
  exfalso
  have b2 : UnderP sig g (nodA g 0).2.1 0 := (hg.nod 0 _ (getD_lt (d := nod0) h)).2.1
  have h1 := b2.1
  have h2 := b2.2
  by_cases hp : (nodA g 0).2.1 < 0
  ·have := h1 hp; omega
  have := (h2 (by omega)).1; omega
 refine ⟨List.length_eq_zero_iff.1 hn, ?_⟩
 rcases Nat.eq_zero_or_pos g.sites.length with h | h
 ·exact List.length_eq_zero_iff.1 h
 exfalso
 have b2 := hg.sit _ (List.mem_of_getElem? (getD_lt (d := 0) h))
 by_cases hp : g.sites.getD 0 0 < 0
 ·have := b2.1 hp; omega
 have := (b2.2 (by omega)).1; omega
theorem filter_one {n : Nat} {p : Nat → Bool} (h : ((List.range n).filter p).length = 1) : ∃ k, k < n ∧ p k = true ∧ ∀ j, j < n → p j = true → j = k := by
 match hl : (List.range n).filter p with
 | [] => rw [hl] at h; simp at h
 | x :: y :: t => rw [hl] at h; simp at h
 | [x] =>
  have hx : x ∈ (List.range n).filter p := by rw [hl]; simp
  obtain ⟨h1, h2⟩ := List.mem_filter.1 hx
  refine ⟨x, List.mem_range.1 h1, h2, fun j hj hp => ?_⟩
  have : j ∈ (List.range n).filter p := List.mem_filter.2 ⟨List.mem_range.2 hj, hp⟩
  rw [hl] at this
  simpa using this
theorem lksW_at {k : Nat} (hk : k < g.inner.length) : (lksW g).getD k 0 = (wiA g k).2 := getD_some (by unfold lksW; rw [List.getElem?_map, getD_lt (d := wi0) hk]; rfl)
theorem ren_ord (h : RenP sig g) : OrdP g.outer.length (lksW g) := by
 have hll : (lksW g).length = g.inner.length := by simp [lksW]
 have hin : ∀ k, k < g.inner.length → 0 ≤ (wiA g k).2 ∧ (wiA g k).2 < g.outer.length := fun k hk => by
  have := wi_link h.good hk
  have h0 := h.e0
  unfold LinkP at this
  omega
 have hmem : ∀ x : Int, 0 ≤ x → x < g.outer.length → x ∈ lksW g := fun x h0 h1 => by
  obtain ⟨k, hk, hp, _⟩ := filter_one (h.one x.toNat (by omega))
  rw [beq_iff_eq] at hp
  have e := lksW_at hk
  rw [show x = (lksW g).getD k 0 by omega]
  exact List.mem_of_getElem? (getD_lt (by rw [hll]; exact hk))
 have hnd : (lksW g).Nodup := by
  rw [List.Nodup, List.pairwise_iff_getElem]
  intro i j hi1 hj1 hij e
  have hj : j < g.inner.length := by rw [← hll]; exact hj1
  have a1 : (lksW g).getD i 0 = (lksW g)[i] := getD_some (List.getElem?_eq_getElem hi1)
  have a2 : (lksW g).getD j 0 = (lksW g)[j] := getD_some (List.getElem?_eq_getElem hj1)
  rw [← a1, ← a2, lksW_at (by omega), lksW_at hj] at e
  have hi := hin i (by omega)
  obtain ⟨k, _, _, hu⟩ := filter_one (h.one (wiA g i).2.toNat (by omega))
  have h1 := hu i (by omega) (by rw [beq_iff_eq]; omega)
  have h2 := hu j hj (by rw [beq_iff_eq]; omega)
  omega
 have hup : (upto 0 g.outer.length).Nodup := by
  unfold upto
  exact List.Pairwise.map (fun i : Nat => (0 : Int) + (i : Int)) (fun a b hab e => hab (by omega)) List.nodup_range
 have hperm : (lksW g).Perm (upto 0 g.outer.length) := (List.perm_ext_iff_of_nodup hnd hup).2 fun x => by
  rw [mem_upto]
  constructor
  ·intro hx
   obtain ⟨w, hw, rfl⟩ := List.mem_map.1 hx
   obtain ⟨k, hk, e⟩ := List.getElem_of_mem hw
   have e1 : wiA g k = w := getD_some (by rw [List.getElem?_eq_getElem hk, e])
   have := hin k hk
   rw [e1] at this
   omega
  intro hx
  exact hmem x (by omega) (by omega)
 refine ⟨?_, hmem⟩
 have := hperm.length_eq
 rw [this]
 simp [upto]
theorem ren_len (h : RenP sig g) : g.inner.length = g.outer.length := by
 have := (ren_ord h).1
 simp [lksW] at this
 omega
theorem invW_at {i : Nat} (hi : i < g.outer.length) : wiA (invW g) i = (g.outer.getD i default, (invL g.outer.length (lksW g)).getD i 0) := getD_some (by
 unfold invW
 simp only
 rw [List.getElem?_map, List.getElem?_range hi]
 rfl)
theorem wi_ext {l l' : List Wi} (hl : l.length = l'.length) (h : ∀ k, k < l.length → l.getD k wi0 = l'.getD k wi0) : l = l' := by
 apply List.ext_getElem hl
 intro i h1 h2
 have := h i h1
 rw [getD_some (List.getElem?_eq_getElem h1), getD_some (List.getElem?_eq_getElem h2)] at this
 exact this
theorem innerN_at {k : Nat} (hk : k < g.inner.length) : (innerN g).getD k default = (wiA g k).1 := getD_some (by unfold innerN; rw [List.getElem?_map, getD_lt (d := wi0) hk]; rfl)
theorem ren_inv_left (h : RenP sig g) : compG (invW g) g = idG 0 (innerN g) := by
 obtain ⟨hn, hs⟩ := no_places h.good h.r0
 have ho := ren_ord h
 refine gr_ext _ _ rfl ?_ ?_ ?_ rfl ?_
 ·show [].map _ ++ g.nodes.map _ = []
  rw [hn]; rfl
 ·have e : (compG (invW g) g).sites = g.sites.map (dnP (invW g)) := rfl
  rw [e, hs]; rfl
 ·show 0 + g.edges = 0
  rw [h.e0]; rfl
 refine wi_ext (by simp [compG, idG, innerN]) fun k hk => ?_
 have hk2 : k < g.inner.length := by simpa [compG] using hk
 have hl := wi_link h.good hk2
 have h0 := h.e0
 unfold LinkP at hl
 have e1 : (compG (invW g) g).inner.getD k wi0 = ((wiA g k).1, dnL (invW g) g (wiA g k).2) := getD_some (by
  show (g.inner.map fun w => (w.1, dnL (invW g) g w.2))[k]? = _
  rw [List.getElem?_map, getD_lt (d := wi0) hk2]; rfl)
 have e2 : (idG 0 (innerN g)).inner.getD k wi0 = ((innerN g).getD k default, (k : Int)) := getD_some (by
  unfold idG
  simp only
  rw [List.getElem?_map, List.getElem?_range (by simpa [innerN] using hk2)]; rfl)
 have e3 := inv_at ho (show k < g.outer.length by rw [← ren_len h]; exact hk2)
 rw [lksW_at hk2] at e3
 rw [e1, e2, innerN_at hk2]
 refine Prod.ext rfl ?_
 show dnL (invW g) g (wiA g k).2 = (k : Int)
 unfold dnL
 rw [if_neg (by omega), show (wiA g k).2 - g.edges = (wiA g k).2 by omega, invW_at (by omega), e3]
 unfold upL
 rw [show (invW g).edges = 0 from rfl, if_neg (by omega)]
 omega
theorem ren_inv_right (h : RenP sig g) : compG g (invW g) = idG 0 g.outer := by
 obtain ⟨hn, hs⟩ := no_places h.good h.r0
 have ho := ren_ord h
 refine gr_ext _ _ h.r0 ?_ rfl ?_ rfl ?_
 ·show g.nodes.map _ ++ [].map _ = []
  rw [hn]; rfl
 ·show g.edges + 0 = 0
  rw [h.e0]; rfl
 refine wi_ext (by simp [compG, idG, invW]) fun i hi => ?_
 have hi2 : i < g.outer.length := by simpa [compG, invW] using hi
 have h0 := h.e0
 have e1 : (compG g (invW g)).inner.getD i wi0 = (g.outer.getD i default, dnL g (invW g) ((invL g.outer.length (lksW g)).getD i 0)) := getD_some (by
  show ((invW g).inner.map fun w => (w.1, dnL g (invW g) w.2))[i]? = _
  have e := invW_at hi2
  rw [List.getElem?_map, getD_lt (d := wi0) (show i < (invW g).inner.length by simpa [invW] using hi2)]
  show some ((wiA (invW g) i).1, dnL g (invW g) (wiA (invW g) i).2) = _
  rw [e])
 have e2 : (idG 0 g.outer).inner.getD i wi0 = (g.outer.getD i default, (i : Int)) := getD_some (by
  unfold idG
  simp only
  rw [List.getElem?_map, List.getElem?_range hi2]; rfl)
 have hr := inv_right ho
 have hb := ord_lt (inv_ord ho) (List.mem_of_getElem? (getD_lt (d := 0) (show i < (invL g.outer.length (lksW g)).length by rw [inv_len ho]; exact hi2)))
 rw [e1, e2]
 refine Prod.ext rfl ?_
 show dnL g (invW g) _ = (i : Int)
 unfold dnL
 rw [show (invW g).edges = 0 from rfl, if_neg (by omega)]
 have hk : ((invL g.outer.length (lksW g)).getD i 0 - 0).toNat < g.inner.length := by rw [ren_len h]; omega
 have e3 : atI (lksW g) ((invL g.outer.length (lksW g)).getD i 0) = (i : Int) := by
  have hi3 : i < ((invL g.outer.length (lksW g)).map (atI (lksW g))).length := by rw [List.length_map, inv_len ho]; exact hi2
  have e4 : ((invL g.outer.length (lksW g)).map (atI (lksW g))).getD i 0 = (upto 0 g.outer.length).getD i 0 := by rw [hr]
  rw [getD_some (x := atI (lksW g) ((invL g.outer.length (lksW g)).getD i 0)) (by rw [List.getElem?_map, getD_lt (d := 0) (by rw [inv_len ho]; exact hi2)]; rfl)] at e4
  rw [e4]
  exact getD_some (by unfold upto; rw [List.getElem?_map, List.getElem?_range hi2]; simp)
 have e5 := lksW_at hk
 unfold atI at e3
 rw [show (invL g.outer.length (lksW g)).getD i 0 - 0 = (invL g.outer.length (lksW g)).getD i 0 by omega] at e5 ⊢
 rw [e5] at e3
 rw [e3]
 unfold upL
 split
 ·rfl
 show (i : Int) + 0 = (i : Int)
 omega
theorem lksW_inv (h : RenP sig g) : lksW (invW g) = invL g.outer.length (lksW g) := by
 have ho := ren_ord h
 apply List.ext_getElem
 ·rw [inv_len ho]; simp [lksW, invW]
 intro i h1 h2
 have hi : i < g.outer.length := by simpa [lksW, invW] using h1
 have e2 : (invL g.outer.length (lksW g)).getD i 0 = (invL g.outer.length (lksW g))[i] := getD_some (List.getElem?_eq_getElem h2)
 rw [← e2]
 simp [lksW, invW]
theorem innerN_inv (g : Gr) : innerN (invW g) = g.outer := by
 unfold innerN invW
 simp only [List.map_map]
 apply List.ext_getElem
 ·simp
 intro i h1 h2
 simp only [List.getElem_map, List.getElem_range, Function.comp]
 exact getD_some (List.getElem?_eq_getElem h2)
theorem ren_inv_inv (h : RenP sig g) : invW (invW g) = g := by
 obtain ⟨hn, hs⟩ := no_places h.good h.r0
 have ho := ren_ord h
 have hil : (invW g).outer.length = g.outer.length := by show (innerN g).length = _; rw [← ren_len h]; simp [innerN]
 refine gr_ext _ _ h.r0.symm hn.symm hs.symm h.e0.symm (innerN_inv g) ?_
 have e0 : (invW (invW g)).inner = (List.range (invW g).outer.length).map fun i : Nat => ((invW g).outer.getD i default, (invL (invW g).outer.length (lksW (invW g))).getD i 0) := rfl
 rw [e0, hil, lksW_inv h, inv_inv ho]
 refine wi_ext (by rw [List.length_map, List.length_range, ren_len h]) fun k hk => ?_
 have hk2 : k < g.outer.length := by simpa using hk
 have hk3 : k < g.inner.length := by rw [ren_len h]; exact hk2
 rw [getD_some (x := ((innerN g).getD k default, (lksW g).getD k 0)) (by rw [List.getElem?_map, List.getElem?_range hk2]; rfl), innerN_at hk3, lksW_at hk3]
 rfl
end

end Go.Proofs.YtijkdpdmclkmlaaGreatDoor
