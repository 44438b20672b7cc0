/- Elements of the reference: inverses: walked. -/
import Derived.Test.YtijkdpdmclkmlaaGreatDoorProg
import Derived.Test.YtijkdpdmclkmlaaGreatDoorJ0
import Derived.Test.YtijkdpdmclkmlaaGreatDoorJ32
import Derived.Test.YtijkdpdmclkmlaaGreatDoorJ4
import Derived.Test.YtijkdpdmclkmlaaGreatDoorJ12
import Derived.BigQuiet
set_option linter.unusedSimpArgs false
set_option linter.unusedVariables false
set_option maxRecDepth 100000
set_option maxHeartbeats 16000000
namespace Go.Proofs.YtijkdpdmclkmlaaGreatDoor
open Go.RowKit
def invTo (n : Nat) (t : List Int) (k : Nat) : List Int := (List.range k).foldl (fun o i => o.set (t.getD i 0).toNat (i : Int)) (List.replicate n 0)
theorem invTo_len (n : Nat) (t : List Int) : ∀ k, (invTo n t k).length = n
 | 0 => by simp [invTo]
 | k + 1 => by
  have := invTo_len n t k
  unfold invTo at this ⊢
  rw [List.range_succ, List.foldl_append]
  simpa using this
theorem invTo_next (n : Nat) (t : List Int) (k j : Nat) (h : t.getD k 0 = (j : Int)) : (ints (invTo n t k)).set j (.int .i64 (k : Int)) = ints (invTo n t (k + 1)) := by
 unfold invTo
 rw [List.range_succ, List.foldl_append]
 simp only [List.foldl_cons, List.foldl_nil]
 rw [h, Int.toNat_natCast]
 unfold ints
 rw [List.map_set]
theorem invTo_all (n : Nat) (t : List Int) : invTo n t n = invL n t := rfl
/-- The first inner name of each outer name. -/
def fstE (g : Gr) : Nat → ByteArray := fun i => (endsG g (i : Int)).getD 0 default
def fstL (g : Gr) : List ByteArray := (List.range g.outer.length).map (fstE g)
theorem fstL_len (g : Gr) : (fstL g).length = g.outer.length := by unfold fstL; simp
theorem ends_pos {sig : List Ct} {g : Gr} (h : RenP sig g) {i : Nat} (hi : i < g.outer.length) : 0 < (endsG g (i : Int)).length := by
 have := h.one i hi
 unfold endsG endsTo
 rw [List.length_map]
 omega
/-- The reference's inverse. -/
def invSG (g : Gr) : Gr := if 0 < g.roots then permG (invL g.roots.toNat (undG g)) else subG g.outer (fstL g) (sortS (fstL g))
theorem strs_snoc (l : List ByteArray) (s : ByteArray) : strs (l ++ [s]) = strs l ++ [.string s] := by unfold strs; rw [List.map_append]; rfl

theorem l3InverseP_any (n : Nat) (g : Gr) (nv sv ov iv : Value) (w : World) (hs : SmallG g) (hn0 : 0 < n) (hn1 : n ≤ 1000) (hr : g.roots = (n : Int)) (ho : OrdP n (undG g)) (hG : RGr w nv sv ov iv g) :
  Calls Tryz.prog 162 #[.agg #[.int .i64 g.roots, nv, sv, .int .i64 g.edges, ov, iv]] w fun e w' => ∃ X : BX, e = .returned (.agg X.cells) ∧ X.g = permG (invL n (undG g)) ∧ RG w w' X := by
 have HG := Lib.hid (show ∀ W, Below w.heap.size w W → RGr W nv sv ov iv g from fun W hb => hG.below hb)
 obtain ⟨AN, cN, AS, cS, AO, cO, AI, cI, rfl, rfl, rfl, rfl⟩ := hG.form
 obtain ⟨w0, hw0, hb0, hs0, bx0, hR0⟩ := laid2 w (.cells #[.int .i64 g.roots, .slice AN g.nodes.length cN, .slice AS g.sites.length cS, .int .i64 g.edges, .slice AO g.outer.length cO, .slice AI g.inner.length cI] 31) (.cells #[.int .i64 0, .slice none 0 0, .slice none 0 0, .int .i64 0, .slice none 0 0, .slice none 0 0] 31)
 have HX := Lib.hid (keepB bx0)
 have HRR := Lib.hid (keepB hR0)
 have HB0 := Lib.hid hb0
 have HR0 := Lib.hid hR0
 have HW0 := Lib.hid hw0
 have HS0 := Lib.hid hs0
 have hsl : g.sites.length = n := by have := ho.1; rw [und_len] at this; omega
 have HUA := Lib.hid (show ∀ k, k < n → ∃ j : Nat, j < n ∧ (undG g).getD k 0 = (j : Int) from fun k hk => by
  have h := ord_lt ho (List.mem_of_getElem? (getD_lt (d := 0) (show k < (undG g).length by rw [und_len]; omega)))
  exact ⟨((undG g).getD k 0).toNat, by omega, by omega⟩)
 have HSA := Lib.hid (show ∀ k, k < n → (undG g).getD k 0 = -1 - g.sites.getD k 0 from fun k hk => und_at (by omega))
 have HOI := Lib.hid (inv_ord ho)
 have HIL := Lib.hid (inv_len ho)
 obtain ⟨x0, x1, x2, x3, x4, x5⟩ := row6 bx0
 rw [hr] at x0
 rw [hw0] at x0 x1 x2 x3 x4 x5
 obtain ⟨i0, hi, hz0, hz1, hz2⟩ := info_parts info_int
 have HRN := Lib.hid hr
 have HSL := Lib.hid hsl
 clear hs hG hb0 bx0 hR0 hw0 ho hr hsl hs0
 have hnp : (0 : Int) < (n : Int) := by omega
 go_enter Tryz.func162, Tryz.ntmps162
 go_wp2_with (at_make; rw [← HW0.out]; refine wpList_make_full _ rfl _ _ 28 rfl w0.heap.size 3 i0 _ 1 Tryz.underlying28 hi hz0 hz1 _ _ _ _ n rfl rfl rfl rfl (by rw [hz2]; omega) (by unfold maxLen; omega) (Nat.le_refl _) ?_; intro w1 hown hgrow; have HOW := Lib.hid hown; have HGR := Lib.hid hgrow; clear hown hgrow)
 have hz : (madeCells (Value.int .i64 0).cells (n * 1)).toList = ints (invTo n (undG g) 0) := by
  rw [Nat.mul_one]
  show (madeCells #[_] _).toList = _
  rw [toList_madeCells_one]
  simp [ints, invTo]
 have hown := HOW.out
 rw [hz] at hown
 have hbel : Below w0.heap.size w0 w1 := (Below.refl _ _).grown HGR.out (Nat.le_refl _) (by simp)
 have HO1 := Lib.hid hown
 have HB1 := Lib.hid hbel
 clear hz HOW HGR hown hbel x0 x1 x2 x3 x4 x5
 go_loopw [4] (fun i wr => ∃ k : Nat, k ≤ n ∧ i = .int .i64 k ∧ wr.ownsRow w0.heap.size 3 1 (.slice (some ⟨w0.heap.size, 0, none⟩) n n) n (ints (invTo n (undG g) k)) ∧ Below w0.heap.size w0 wr)
  (fun i _ => n - (intOf i).toNat)
 case atStart => exact ⟨0, Nat.zero_le _, rfl, HO1.out, HB1.out⟩
 clear HO1 HB1
 obtain ⟨k, hk, rfl, hown, hbel⟩ := hrel
 have bxr := HX.out wr hbel
 obtain ⟨x0, x1, x2, x3, x4, x5⟩ := row6 bxr
 rw [HRN.out] at x0
 clear bxr
 by_cases hlt : k < n
 ·obtain ⟨A', c', eS, hcS⟩ := (HG.out wr (HB0.out.trans (hbel.mono HB0.out.size))).s
  cases eS
  obtain ⟨b, o, rfl, hc⟩ := hcS.int (show k < g.sites.length by rw [HSL.out]; exact hlt)
  have k0 := hc k (by rw [HSL.out]; exact hlt)
  obtain ⟨j, hj, hju⟩ := HUA.out k hlt
  have hjs := HSA.out k hlt
  have hg : wr.cell? ⟨w0.heap.size, j, none⟩ = some ((ints (invTo n (undG g) k))[j]'(by simp [ints, invTo_len]; omega)) := by
   rw [hown.cellAt j (by omega)]
   exact List.getElem?_eq_getElem _
  have hf := hown.frozenAt j
  have hst := hown.stored j (.int .i64 (k : Int))
  rw [invTo_next n _ k j hju] at hst
  obtain ⟨hs1, hs2⟩ := hst
  have HS1 := Lib.hid hs1
  have HS2 := Lib.hid (hbel.grown hs2 hbel.size (by simp))
  rw [hju] at hjs
  clear hs1 hs2 hown hbel hc hcS hju
  generalize (ints (invTo n (undG g) k))[j]'_ = y at hg
  obtain ⟨p, hp⟩ : ∃ p, p = g.sites.getD k 0 := ⟨_, rfl⟩
  rw [← hp] at k0 hjs
  clear hp
  obtain rfl : p = -1 - (j : Int) := by omega
  have he : -1 - (-1 - (j : Int)) = (j : Int) := by omega
  have hjn : (j : Int) < (n : Int) := by omega
  have hkn : (k : Int) < (n : Int) := by omega
  have hks : (k : Int) < (g.sites.length : Int) := by rw [HSL.out]; omega
  have hwr := IntWalk.i64_in (j : Int) (by omega)
  clear hjs
  go_wp2_with fail
  go_roundw
  case rel => exact ⟨k + 1, by omega, by go_num, HS1.out, HS2.out⟩
  case measure => simp [intOf]; omega
 obtain rfl : k = n := by omega
 have hown2 := hown
 rw [invTo_all] at hown2
 have HCL := l3Permutation_any (invL k (undG g)) (some ⟨w0.heap.size, 0, none⟩) k wr (by rw [HIL.out]; omega) (fun x hx => by have := ord_lt HOI.out hx; omega) (by have h := Cells.of_owns hown2; exact h)
 rw [HIL.out] at HCL
 have HCA := Lib.hid HCL
 have HBW := Lib.hid hbel
 clear hown hown2 HCL hbel
 go_wp2_with fail
 (with_reducible refine HCA.out.mono ?_)
 rintro e w2 ⟨X, rfl, hXg, hr⟩
 obtain ⟨xr, xe, xnv, xsv, xov, xiv, xns, xls, xss, xos, xis⟩ := X
 obtain ⟨YN, dN, YS, dS, YO, dO, YI, dI, e1, e2, e3, e4⟩ := hr.ob.form
 dsimp only at e1 e2 e3 e4
 subst e1 e2 e3 e4
 have HXG := Lib.hid hXg
 have HB2 := Lib.hid (HBW.out.trans (hr.bel.mono HBW.out.size))
 have hsw := HBW.out.size
 have hs2 := hr.bel.size
 have HR := Lib.hid hr
 clear hXg hr HCA
 simp only [BX.cells]
 have hRW := HRR.out w2 HB2.out
 obtain ⟨z0, z1, z2, z3, z4, z5, f0, f1, f2, f3, f4, f5⟩ := row6f hRW
 clear hRW
 go_wp2_with fail
 have hsz0 := HS0.out
 have hf := fin6R (X := ⟨xr, xe, .slice YN xns.length dN, .slice YS xss.length dS, .slice YO xos.length dO, .slice YI xis.length dI, xns, xls, xss, xos, xis⟩) (w.heap.size + 1) HB0.out (by omega) HR0.out (Kept.of_below HB2.out (fun q => (w.heap.size + 1) + 1 ≤ q)) (HR.out.ob.mono (by omega))
 (try simp only [Exit.inBlock, Exit.then])
 refine bodyPost_ret (results_cell_row rfl _ _ (w.heap.size + 1) _ _ _ _ rfl hf.1 Tryz.underlying31 rfl (by kernel_rfl)) rfl ?_
 exact ⟨_, rfl, HXG.out, hf.2⟩

theorem l3InverseW_any (sig : List Ct) (g : Gr) (nv sv ov iv : Value) (w : World) (hs : SmallG g) (h : RenP sig g) (hG : RGr w nv sv ov iv g) :
  Calls Tryz.prog 162 #[.agg #[.int .i64 g.roots, nv, sv, .int .i64 g.edges, ov, iv]] w fun e w' => ∃ X : BX, e = .returned (.agg X.cells) ∧ X.g = subG g.outer (fstL g) (sortS (fstL g)) ∧ RG w w' X := by
 have HG := Lib.hid (show ∀ W, Below w.heap.size w W → RGr W nv sv ov iv g from fun W hb => hG.below hb)
 obtain ⟨AN, cN, AS, cS, AO, cO, AI, cI, rfl, rfl, rfl, rfl⟩ := hG.form
 obtain ⟨w0, hw0, hb0, hs0, bx0, hR0⟩ := laid2 w (.cells #[.int .i64 g.roots, .slice AN g.nodes.length cN, .slice AS g.sites.length cS, .int .i64 g.edges, .slice AO g.outer.length cO, .slice AI g.inner.length cI] 31) (.cells #[.int .i64 0, .slice none 0 0, .slice none 0 0, .int .i64 0, .slice none 0 0, .slice none 0 0] 31)
 have HX := Lib.hid (keepB bx0)
 have HRR := Lib.hid (keepB hR0)
 have HB0 := Lib.hid hb0
 have HR0 := Lib.hid hR0
 have HW0 := Lib.hid hw0
 have HS0 := Lib.hid hs0
 have hol := hs.outer
 have hr := h.r0
 have HSM := Lib.hid hs
 have HEP := Lib.hid (show ∀ i, i < g.outer.length → 0 < (endsG g (i : Int)).length from fun i hi => ends_pos h hi)
 obtain ⟨x0, x1, x2, x3, x4, x5⟩ := row6 bx0
 rw [hr] at x0
 rw [hw0] at x0 x1 x2 x3 x4 x5
 clear hs hG hb0 bx0 hR0 hw0 h hr hs0
 go_enter Tryz.func162, Tryz.ntmps162
 go_wp2_with fail
 rw [← HW0.out]
 clear x0 x1 x2 x3 x4 x5
 go_loopw [5, 6] (fun u i wr => ∃ k : Nat, k ≤ g.outer.length ∧ i = .int .i64 k ∧ wr.ownsRow w0.heap.size 9 1 u k (strs ((List.range k).map (fstE g))) ∧ Below w0.heap.size w0 wr)
  (fun u i _ => g.outer.length - (intOf i).toNat)
 case atStart => exact ⟨0, Nat.zero_le _, rfl, by have h := made_rowG w0 9; first | exact h | (rw [← HS0.out]; exact h) | (rw [HS0.out] at h ⊢; exact h), (Below.refl _ _).alloc (Nat.le_refl _) _⟩
 obtain ⟨k, hk, rfl, hown, hbel⟩ := hrel
 obtain ⟨AF, cF, rfl, hown⟩ := owns_form hown
 have bxr := HX.out wr hbel
 obtain ⟨x0, x1, x2, x3, x4, x5⟩ := row6 bxr
 clear bxr
 have hsz := hbel.size
 by_cases hlt : k < g.outer.length
 ·have HE := Lib.hid (l2Ends_any g _ _ _ _ (k : Int) wr HSM.out (HG.out wr (HB0.out.trans (hbel.mono HB0.out.size))))
  have hep := HEP.out k hlt
  have HOW := Lib.hid hown
  have HBE := Lib.hid hbel
  clear hown hbel
  go_wp2_with (first | ((with_reducible refine HE.out.mono ?_); rintro e w2 ⟨r, rfl, ho, hb⟩; obtain ⟨A1, c1, rfl, ho⟩ := owns_form ho; obtain ⟨b, o, rfl, hc⟩ := (Cells.of_owns ho).str hep; have k0 := hc 0 hep; rw [Nat.add_zero] at k0; obtain ⟨s, hse⟩ : ∃ s, s = (endsG g (k : Int)).getD 0 default := ⟨_, rfl⟩; rw [← hse] at k0; have HSE := Lib.hid hse; have HO2 := Lib.hid (owns_below HOW.out hb (Nat.le_refl _)); have HB2 := Lib.hid (HBE.out.trans (hb.mono hsz)); have hsz2 := HB2.out.size; clear ho hb hc hse) | (at_builtin; refine wpList_app el_strG rfl _ _ rfl w0.heap.size _ _ _ rfl HO2.out [.string s] rfl rfl rfl (one1 rfl) (by omega) hsz2 ?_; intro v2 w3 ho hk2 hm2))
  have HO3 := Lib.hid (show w3.ownsRow w0.heap.size 9 1 v2 (k + 1) (strs ((List.range (k + 1)).map (fstE g))) from by rw [rm_succ, strs_snoc, show fstE g k = s from HSE.out.symm]; exact ho)
  have HB3 := Lib.hid (below_kept HB2.out hk2 (fun q hq => (HO2.out.lt q hq).1) hsz2)
  clear ho hk2 hm2
  go_wp2_with fail
  go_roundw
  case rel => exact ⟨k + 1, by omega, by go_num, HO3.out, HB3.out⟩
  case measure => simp [intOf]; omega
 obtain rfl : k = g.outer.length := by omega
 have hbx := HB0.out.trans (hbel.mono HB0.out.size)
 have HCL := l3Substitution_any AO AF cO cF g.outer (fstL g) wr hol (fstL_len g) (by obtain ⟨A', c', e', h⟩ := (HG.out wr hbx).o; cases e'; exact h) (by have h := Cells.of_owns hown; exact h)
 rw [fstL_len] at HCL
 have HCA := Lib.hid HCL
 have HBW := Lib.hid hbel
 clear hown HCL hbel hbx
 go_wp2_with fail
 (with_reducible refine HCA.out.mono ?_)
 rintro e w2 ⟨X, rfl, hXg, hr⟩
 obtain ⟨xr, xe, xnv, xsv, xov, xiv, xns, xls, xss, xos, xis⟩ := X
 obtain ⟨YN, dN, YS, dS, YO, dO, YI, dI, e1, e2, e3, e4⟩ := hr.ob.form
 dsimp only at e1 e2 e3 e4
 subst e1 e2 e3 e4
 have HXG := Lib.hid hXg
 have HB2 := Lib.hid (HBW.out.trans (hr.bel.mono HBW.out.size))
 have hsw := HBW.out.size
 have hs2 := hr.bel.size
 have HR := Lib.hid hr
 clear hXg hr HCA
 simp only [BX.cells]
 have hRW := HRR.out w2 HB2.out
 obtain ⟨z0, z1, z2, z3, z4, z5, f0, f1, f2, f3, f4, f5⟩ := row6f hRW
 clear hRW
 go_wp2_with fail
 have hsz0 := HS0.out
 have hf := fin6R (X := ⟨xr, xe, .slice YN xns.length dN, .slice YS xss.length dS, .slice YO xos.length dO, .slice YI xis.length dI, xns, xls, xss, xos, xis⟩) (w.heap.size + 1) HB0.out (by omega) HR0.out (Kept.of_below HB2.out (fun q => (w.heap.size + 1) + 1 ≤ q)) (HR.out.ob.mono (by omega))
 (try simp only [Exit.inBlock, Exit.then])
 refine bodyPost_ret (results_cell_row rfl _ _ (w.heap.size + 1) _ _ _ _ rfl hf.1 Tryz.underlying31 rfl (by kernel_rfl)) rfl ?_
 exact ⟨_, rfl, HXG.out, hf.2⟩

theorem ord_undG {g : Gr} {n : Nat} (hp : permB g = true) (hr : g.roots = (n : Int)) : OrdP n (undG g) := by
 rw [permB_eq] at hp
 simp only [Bool.and_eq_true] at hp
 have := (order_iff _ _).1 hp.2
 rw [hr] at this
 exact this
theorem ren_of {sig : List Ct} {g : Gr} (hg : GoodP sig g) (h : renR sig g = true) : RenP sig g := by
 rw [renR_alt] at h
 simp only [Bool.and_eq_true] at h
 obtain ⟨_, ⟨h1, h2⟩, h3, _⟩ := h
 have r0 : g.roots = 0 := by simpa [wirB] using h1
 have e0 : g.edges = 0 := by simpa using h2
 refine { good := hg, r0 := r0, e0 := e0, one := fun i hi => ?_ }
 unfold oneB at h3
 rw [allR_iff] at h3
 have h4 := h3 i hi
 unfold oneAt at h4
 rw [beq_iff_eq, e0, Int.zero_add] at h4
 have hn := (no_places hg r0).1
 have hpt : ptsG g (i : Int) = [] := by unfold ptsG ptsTo; rw [hn]; rfl
 rw [hpt] at h4
 unfold endsG endsTo at h4
 rw [List.length_map] at h4
 simp at h4
 omega
def invB (sig : List Ct) (g : Gr) : Bool := goodG sig g && (permB g || ((wirB g && (g.edges == 0)) && (oneB g && (g.edges == 0))))

theorem l3Inverse_any (sig : List Ct) (g : Gr) (nv sv ov iv : Value) (w : World) (hs : SmallG g) (hi : invB sig g = true) (hG : RGr w nv sv ov iv g) :
  Calls Tryz.prog 162 #[.agg #[.int .i64 g.roots, nv, sv, .int .i64 g.edges, ov, iv]] w fun e w' => ∃ X : BX, e = .returned (.agg X.cells) ∧ X.g = invSG g ∧ RG w w' X := by
 unfold invB at hi
 simp only [Bool.and_eq_true, Bool.or_eq_true] at hi
 have hgp := (good_iff sig g).1 hi.1
 by_cases h0 : 0 < g.roots
 ·have hr : g.roots = ((g.roots.toNat : Nat) : Int) := by omega
  have hp : permB g = true := by
   rcases hi.2 with h | ⟨⟨h, _⟩, _⟩
   ·exact h
   have : g.roots = 0 := by simpa [wirB] using h
   omega
  unfold invSG
  rw [if_pos h0]
  exact l3InverseP_any g.roots.toNat g nv sv ov iv w hs (by omega) (by have := hs.roots; omega) hr (ord_undG hp hr) hG
 unfold invSG
 rw [if_neg h0]
 have hr := hgp.r
 have r0 : g.roots = 0 := by omega
 refine l3InverseW_any sig g nv sv ov iv w hs ?_ hG
 rcases hi.2 with h | h
 ·have hpl : placB g = true := by rw [permB_eq, Bool.and_eq_true] at h; exact h.1
  unfold placB at hpl
  simp only [Bool.and_eq_true, decide_eq_true_eq] at hpl
  exact { good := hgp, r0 := r0, e0 := hpl.1.1.2, one := fun i hi => by have := hpl.1.2; omega }
 exact ren_of hgp (by rw [renR_alt, hi.1, Bool.true_and, Bool.and_eq_true, Bool.and_eq_true, Bool.and_eq_true]; exact h)

theorem specInverseOf_any (sig : List Ct) (g : Gr) (nv sv ov iv gv : Value) (w : World) (hs : SmallG g) (hz : SmallS sig) (hS : RSl RCt 3 w gv sig) (hG : RGr w nv sv ov iv g) :
  Calls Tryz.prog 70 #[gv, .agg #[.int .i64 g.roots, nv, sv, .int .i64 g.edges, ov, iv]] w fun e w' => ∃ X : BX, e = .returned (.tuple #[.agg X.cells, .bool (invB sig g)]) ∧ X.g = (if invB sig g then invSG g else zeroG) ∧ RG w w' X := by
 have HG := Lib.hid (show ∀ W, Below w.heap.size w W → RGr W nv sv ov iv g from fun W hb => hG.below hb)
 have HS := Lib.hid (show ∀ W, Below w.heap.size w W → RSl RCt 3 W gv sig from fun W hb => hS.below RCt_keep hb)
 obtain ⟨AN, cN, AS, cS, AO, cO, AI, cI, rfl, rfl, rfl, rfl⟩ := hG.form
 obtain ⟨AG, cG, rfl, _⟩ := hS.form
 obtain ⟨w0, hw0, hb0, hs0, bx0, hR0⟩ := laid2 w (.cells #[.int .i64 g.roots, .slice AN g.nodes.length cN, .slice AS g.sites.length cS, .int .i64 g.edges, .slice AO g.outer.length cO, .slice AI g.inner.length cI] 31) (.cells #[.int .i64 0, .slice none 0 0, .slice none 0 0, .int .i64 0, .slice none 0 0, .slice none 0 0] 31)
 have HX := Lib.hid (keepB bx0)
 have HRR := Lib.hid (keepB hR0)
 have HB0 := Lib.hid hb0
 have HR0 := Lib.hid hR0
 have HW0 := Lib.hid hw0
 have HS0 := Lib.hid hs0
 have HSM := Lib.hid hs
 have HZS := Lib.hid hz
 have HPT := Lib.hid (show invB sig g = (goodG sig g && (permB g || ((wirB g && (g.edges == 0)) && (oneB g && (g.edges == 0))))) from rfl)
 obtain ⟨x0, x1, x2, x3, x4, x5⟩ := row6 bx0
 rw [hw0] at x0 x1 x2 x3 x4 x5
 clear hs hG hb0 bx0 hR0 hw0 hS hz hs0
 cases c0 : goodG sig g
 ·have HE := Lib.hid (show invB sig g = false from by rw [HPT.out, c0]; first | done | rfl)
  have HC0 := Lib.hid c0
  rw [HE.out]
  clear c0
  have hbe := Below.refl w0.heap.size w0
  have HW0B := Lib.hid hbe
  clear hbe
  have H0 := l2Good_any sig g _ _ _ _ _ w0 HSM.out HZS.out (HS.out w0 HB0.out) (HG.out w0 HB0.out)
  rw [HC0.out] at H0
  have HH0 := Lib.hid H0
  clear H0
  go_enter Tryz.func70, Tryz.ntmps70
  go_wp2_with fail
  rw [← HW0.out]
  (with_reducible refine HH0.out.mono ?_)
  rintro e u0 ⟨rfl, hb⟩
  have HU0 := Lib.hid (HW0B.out.trans (hb.mono HW0B.out.size))
  clear hb x0 x1 x2 x3 x4 x5
  have hsw := HU0.out.size
  have hRW := HRR.out u0 HU0.out
  obtain ⟨z0, z1, z2, z3, z4, z5, f0, f1, f2, f3, f4, f5⟩ := row6f hRW
  clear hRW
  go_wp2_with fail
  have hsz0 := HS0.out
  have hf := fin6R (X := zeroX) (w.heap.size + 1) HB0.out (by omega) HR0.out (Kept.of_below HU0.out (fun q => w.heap.size + 1 + 1 ≤ q)) (zero_ob _ _)
  (try simp only [Exit.inBlock, Exit.then])
  refine bodyPost_ret (rcell2 rfl _ _ (w.heap.size + 1) _ _ _ _ rfl hf.1 Tryz.underlying31 rfl (by kernel_rfl)) rfl ?_
  exact ⟨_, rfl, rfl, hf.2⟩
 have HGP := Lib.hid ((good_iff sig g).1 c0)
 cases c1 : permB g
 ·cases c2 : ((wirB g && (g.edges == 0)) && (oneB g && (g.edges == 0)))
  ·have HE := Lib.hid (show invB sig g = false from by rw [HPT.out, c0, c1, c2]; first | done | rfl)
   have HPU := Lib.hid (show permuB g = false from by rw [← perm_same HGP.out]; exact c1)
   have HC0 := Lib.hid c0
   have HC1 := Lib.hid c1
   have HC2 := Lib.hid c2
   rw [HE.out]
   clear c0 c1 c2
   have hbe := Below.refl w0.heap.size w0
   have HW0B := Lib.hid hbe
   clear hbe
   have H0 := l2Good_any sig g _ _ _ _ _ w0 HSM.out HZS.out (HS.out w0 HB0.out) (HG.out w0 HB0.out)
   rw [HC0.out] at H0
   have HH0 := Lib.hid H0
   clear H0
   go_enter Tryz.func70, Tryz.ntmps70
   go_wp2_with fail
   rw [← HW0.out]
   (with_reducible refine HH0.out.mono ?_)
   rintro e u0 ⟨rfl, hb⟩
   have HU0 := Lib.hid (HW0B.out.trans (hb.mono HW0B.out.size))
   clear hb x0 x1 x2 x3 x4 x5
   have bxr := HX.out u0 HU0.out
   obtain ⟨x0, x1, x2, x3, x4, x5⟩ := row6 bxr
   clear bxr
   have H1 := l3Permutes_any g _ _ _ _ u0 HSM.out (HG.out u0 (HB0.out.trans (HU0.out.mono HB0.out.size)))
   rw [HPU.out] at H1
   have HH1 := Lib.hid H1
   clear H1
   go_wp2_with fail
   (with_reducible refine HH1.out.mono ?_)
   rintro e u1 ⟨rfl, hb⟩
   have HU1 := Lib.hid (HU0.out.trans (hb.mono HU0.out.size))
   clear hb x0 x1 x2 x3 x4 x5
   have bxr := HX.out u1 HU1.out
   obtain ⟨x0, x1, x2, x3, x4, x5⟩ := row6 bxr
   clear bxr
   have H2 := l3Renames_any g _ _ _ _ u1 HSM.out (HG.out u1 (HB0.out.trans (HU1.out.mono HB0.out.size)))
   rw [HC2.out] at H2
   have HH2 := Lib.hid H2
   clear H2
   go_wp2_with fail
   (with_reducible refine HH2.out.mono ?_)
   rintro e u2 ⟨rfl, hb⟩
   have HU2 := Lib.hid (HU1.out.trans (hb.mono HU1.out.size))
   clear hb x0 x1 x2 x3 x4 x5
   have hsw := HU2.out.size
   have hRW := HRR.out u2 HU2.out
   obtain ⟨z0, z1, z2, z3, z4, z5, f0, f1, f2, f3, f4, f5⟩ := row6f hRW
   clear hRW
   go_wp2_with fail
   have hsz0 := HS0.out
   have hf := fin6R (X := zeroX) (w.heap.size + 1) HB0.out (by omega) HR0.out (Kept.of_below HU2.out (fun q => w.heap.size + 1 + 1 ≤ q)) (zero_ob _ _)
   (try simp only [Exit.inBlock, Exit.then])
   refine bodyPost_ret (rcell2 rfl _ _ (w.heap.size + 1) _ _ _ _ rfl hf.1 Tryz.underlying31 rfl (by kernel_rfl)) rfl ?_
   exact ⟨_, rfl, rfl, hf.2⟩
  have HE := Lib.hid (show invB sig g = true from by rw [HPT.out, c0, c1, c2]; first | done | rfl)
  have HPU := Lib.hid (show permuB g = false from by rw [← perm_same HGP.out]; exact c1)
  have HC0 := Lib.hid c0
  have HC1 := Lib.hid c1
  have HC2 := Lib.hid c2
  rw [HE.out]
  clear c0 c1 c2
  have hbe := Below.refl w0.heap.size w0
  have HW0B := Lib.hid hbe
  clear hbe
  have H0 := l2Good_any sig g _ _ _ _ _ w0 HSM.out HZS.out (HS.out w0 HB0.out) (HG.out w0 HB0.out)
  rw [HC0.out] at H0
  have HH0 := Lib.hid H0
  clear H0
  go_enter Tryz.func70, Tryz.ntmps70
  go_wp2_with fail
  rw [← HW0.out]
  (with_reducible refine HH0.out.mono ?_)
  rintro e u0 ⟨rfl, hb⟩
  have HU0 := Lib.hid (HW0B.out.trans (hb.mono HW0B.out.size))
  clear hb x0 x1 x2 x3 x4 x5
  have bxr := HX.out u0 HU0.out
  obtain ⟨x0, x1, x2, x3, x4, x5⟩ := row6 bxr
  clear bxr
  have H1 := l3Permutes_any g _ _ _ _ u0 HSM.out (HG.out u0 (HB0.out.trans (HU0.out.mono HB0.out.size)))
  rw [HPU.out] at H1
  have HH1 := Lib.hid H1
  clear H1
  go_wp2_with fail
  (with_reducible refine HH1.out.mono ?_)
  rintro e u1 ⟨rfl, hb⟩
  have HU1 := Lib.hid (HU0.out.trans (hb.mono HU0.out.size))
  clear hb x0 x1 x2 x3 x4 x5
  have bxr := HX.out u1 HU1.out
  obtain ⟨x0, x1, x2, x3, x4, x5⟩ := row6 bxr
  clear bxr
  have H2 := l3Renames_any g _ _ _ _ u1 HSM.out (HG.out u1 (HB0.out.trans (HU1.out.mono HB0.out.size)))
  rw [HC2.out] at H2
  have HH2 := Lib.hid H2
  clear H2
  go_wp2_with fail
  (with_reducible refine HH2.out.mono ?_)
  rintro e u2 ⟨rfl, hb⟩
  have HU2 := Lib.hid (HU1.out.trans (hb.mono HU1.out.size))
  clear hb x0 x1 x2 x3 x4 x5
  have bxr := HX.out u2 HU2.out
  obtain ⟨x0, x1, x2, x3, x4, x5⟩ := row6 bxr
  clear bxr
  have HCB := Lib.hid (l3Inverse_any sig g _ _ _ _ u2 HSM.out HE.out (HG.out u2 (HB0.out.trans (HU2.out.mono HB0.out.size))))
  go_wp2_with fail
  (with_reducible refine HCB.out.mono ?_)
  rintro e w2 ⟨X, rfl, hXg, hr⟩
  obtain ⟨xr, xe, xnv, xsv, xov, xiv, xns, xls, xss, xos, xis⟩ := X
  obtain ⟨YN, dN, YS, dS, YO, dO, YI, dI, e1, e2, e3, e4⟩ := hr.ob.form
  dsimp only at e1 e2 e3 e4
  subst e1 e2 e3 e4
  have HXG := Lib.hid hXg
  have HB2 := Lib.hid (HU2.out.trans (hr.bel.mono HU2.out.size))
  have hsw := HU2.out.size
  have hs2 := hr.bel.size
  have HR := Lib.hid hr
  clear hXg hr HCB
  simp only [BX.cells]
  have hRW := HRR.out w2 HB2.out
  obtain ⟨z0, z1, z2, z3, z4, z5, f0, f1, f2, f3, f4, f5⟩ := row6f hRW
  clear hRW
  go_wp2_with fail
  have hsz0 := HS0.out
  have hf := fin6R (X := ⟨xr, xe, .slice YN xns.length dN, .slice YS xss.length dS, .slice YO xos.length dO, .slice YI xis.length dI, xns, xls, xss, xos, xis⟩) (w.heap.size + 1) HB0.out (by omega) HR0.out (Kept.of_below HB2.out (fun q => (w.heap.size + 1) + 1 ≤ q)) (HR.out.ob.mono (by omega))
  (try simp only [Exit.inBlock, Exit.then])
  refine bodyPost_ret (rcell2 rfl _ _ (w.heap.size + 1) _ _ _ _ rfl hf.1 Tryz.underlying31 rfl (by kernel_rfl)) rfl ?_
  exact ⟨_, rfl, HXG.out, hf.2⟩
 have HE := Lib.hid (show invB sig g = true from by rw [HPT.out, c0, c1]; first | done | rfl)
 have HPU := Lib.hid (show permuB g = true from by rw [← perm_same HGP.out]; exact c1)
 have HC0 := Lib.hid c0
 have HC1 := Lib.hid c1
 rw [HE.out]
 clear c0 c1
 have hbe := Below.refl w0.heap.size w0
 have HW0B := Lib.hid hbe
 clear hbe
 have H0 := l2Good_any sig g _ _ _ _ _ w0 HSM.out HZS.out (HS.out w0 HB0.out) (HG.out w0 HB0.out)
 rw [HC0.out] at H0
 have HH0 := Lib.hid H0
 clear H0
 go_enter Tryz.func70, Tryz.ntmps70
 go_wp2_with fail
 rw [← HW0.out]
 (with_reducible refine HH0.out.mono ?_)
 rintro e u0 ⟨rfl, hb⟩
 have HU0 := Lib.hid (HW0B.out.trans (hb.mono HW0B.out.size))
 clear hb x0 x1 x2 x3 x4 x5
 have bxr := HX.out u0 HU0.out
 obtain ⟨x0, x1, x2, x3, x4, x5⟩ := row6 bxr
 clear bxr
 have H1 := l3Permutes_any g _ _ _ _ u0 HSM.out (HG.out u0 (HB0.out.trans (HU0.out.mono HB0.out.size)))
 rw [HPU.out] at H1
 have HH1 := Lib.hid H1
 clear H1
 go_wp2_with fail
 (with_reducible refine HH1.out.mono ?_)
 rintro e u1 ⟨rfl, hb⟩
 have HU1 := Lib.hid (HU0.out.trans (hb.mono HU0.out.size))
 clear hb x0 x1 x2 x3 x4 x5
 have bxr := HX.out u1 HU1.out
 obtain ⟨x0, x1, x2, x3, x4, x5⟩ := row6 bxr
 clear bxr
 have HCB := Lib.hid (l3Inverse_any sig g _ _ _ _ u1 HSM.out HE.out (HG.out u1 (HB0.out.trans (HU1.out.mono HB0.out.size))))
 go_wp2_with fail
 (with_reducible refine HCB.out.mono ?_)
 rintro e w2 ⟨X, rfl, hXg, hr⟩
 obtain ⟨xr, xe, xnv, xsv, xov, xiv, xns, xls, xss, xos, xis⟩ := X
 obtain ⟨YN, dN, YS, dS, YO, dO, YI, dI, e1, e2, e3, e4⟩ := hr.ob.form
 dsimp only at e1 e2 e3 e4
 subst e1 e2 e3 e4
 have HXG := Lib.hid hXg
 have HB2 := Lib.hid (HU1.out.trans (hr.bel.mono HU1.out.size))
 have hsw := HU1.out.size
 have hs2 := hr.bel.size
 have HR := Lib.hid hr
 clear hXg hr HCB
 simp only [BX.cells]
 have hRW := HRR.out w2 HB2.out
 obtain ⟨z0, z1, z2, z3, z4, z5, f0, f1, f2, f3, f4, f5⟩ := row6f hRW
 clear hRW
 go_wp2_with fail
 have hsz0 := HS0.out
 have hf := fin6R (X := ⟨xr, xe, .slice YN xns.length dN, .slice YS xss.length dS, .slice YO xos.length dO, .slice YI xis.length dI, xns, xls, xss, xos, xis⟩) (w.heap.size + 1) HB0.out (by omega) HR0.out (Kept.of_below HB2.out (fun q => (w.heap.size + 1) + 1 ≤ q)) (HR.out.ob.mono (by omega))
 (try simp only [Exit.inBlock, Exit.then])
 refine bodyPost_ret (rcell2 rfl _ _ (w.heap.size + 1) _ _ _ _ rfl hf.1 Tryz.underlying31 rfl (by kernel_rfl)) rfl ?_
 exact ⟨_, rfl, HXG.out, hf.2⟩

end Go.Proofs.YtijkdpdmclkmlaaGreatDoor
