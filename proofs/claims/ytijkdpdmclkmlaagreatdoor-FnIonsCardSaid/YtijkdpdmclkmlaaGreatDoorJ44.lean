/- Elements: atoms and ions of the program, atoms of the reference: walked. -/
import Derived.Test.YtijkdpdmclkmlaaGreatDoorProg
import Derived.Test.YtijkdpdmclkmlaaGreatDoorJ0
import Derived.Test.YtijkdpdmclkmlaaGreatDoorJ43
import Derived.BigQuiet
set_option linter.unusedSimpArgs false
set_option linter.unusedVariables false
set_option maxRecDepth 100000
set_option maxHeartbeats 16000000
namespace Go.Proofs.YtijkdpdmclkmlaaGreatDoor
open Go.RowKit
/-- A node with its links, in a box of its own beside the bigraph's, while its links are appended: lv the row, lb what the box holds. -/
structure SN (wb : World) (B P P2 : Nat) (ct : Int) (OV lv lb : Value) (outs : List ByteArray) (ls : List Int) (W : World) : Prop where
 k : Kept (fun q => B ≤ q) wb W
 bo : W.heap[P]? = some (.cells #[.int .i64 1, nilV, nilV, .int .i64 0, OV, nilV] 31)
 bn : W.heap[P2]? = some (.cells #[.int .i64 ct, .int .i64 (-1), lb] 88)
 oo : W.ownsRow B 9 1 OV outs.length (strs outs)
 lo : W.ownsRow B 3 1 lv ls.length (ints ls)
section
variable {wb W W' : World} {B P P2 : Nat} {ct : Int} {OV lv lb v : Value} {outs : List ByteArray} {ls ls' : List Int}
theorem SN.lay (h : SN wb B P P2 ct OV lv lb outs ls W) (hb : Below W.heap.size W W') : SN wb B P P2 ct OV lv lb outs ls W' :=
  { k := h.k.trans (Kept.of_below hb _), bo := (hb.block P (Array.getElem?_eq_some_iff.1 h.bo).1).trans h.bo, bn := (hb.block P2 (Array.getElem?_eq_some_iff.1 h.bn).1).trans h.bn, oo := owns_below h.oo hb (Nat.le_refl _), lo := owns_below h.lo hb (Nat.le_refl _) }
theorem SN.app (h : SN wb B P P2 ct OV lv lb outs ls W) (ho : W'.ownsRow B 3 1 v ls'.length (ints ls')) (hk : Kept (fun q => lv.ownBlock = some q) W W') : SN wb B P P2 ct OV v lb outs ls' W' :=
  { k := h.k.trans (hk.mono fun b hb => (h.lo.lt b hb).1), bo := (hk.block P (Array.getElem?_eq_some_iff.1 h.bo).1 (fun e => ownsT h.lo h.bo (by decide) e)).trans h.bo, bn := (hk.block P2 (Array.getElem?_eq_some_iff.1 h.bn).1 (fun e => ownsT h.lo h.bn (by decide) e)).trans h.bn
    oo := ownsK h.oo hk (fun g hg => ownsA h.oo h.lo (by decide) g hg), lo := ho }
theorem SN.put (h : SN wb B P P2 ct OV lv lb outs ls W) (hP : P ≠ P2) (hB : B ≤ P2) : SN wb B P P2 ct OV lv lv outs ls (W.setCell ⟨P2, 2, none⟩ lv) := by
  have hK : Kept (fun q => q = P2) W (W.setCell ⟨P2, 2, none⟩ lv) := (Kept.refl _ W).setCell (S := fun q => q = P2) (p := ⟨P2, 2, none⟩) rfl _
  exact { k := h.k.trans (hK.mono fun b hb => by omega), bo := (hK.block P (Array.getElem?_eq_some_iff.1 h.bo).1 hP).trans h.bo, bn := heap_setCell_same W P2 2 _ _ lv h.bn
          oo := ownsK h.oo hK (fun g hg e => by subst e; exact ownsT h.oo h.bn (by decide) hg), lo := ownsK h.lo hK (fun g hg e => by subst e; exact ownsT h.lo h.bn (by decide) hg) }
theorem SN.row {F : Nat → Int} {k : Nat} (h : SN wb B P P2 ct OV lv lb outs ((List.range k).map F) W) : W.ownsRow B 3 1 lv k (ints ((List.range k).map F)) := by
 have h := h.lo
 rwa [show ((List.range k).map F).length = k from by simp] at h
theorem row3 {W : World} {P : Nat} {a0 a1 a2 : Value} {t : TypeId} (h : W.heap[P]? = some (.cells #[a0, a1, a2] t)) : W.cell? ⟨P, 0, none⟩ = some a0 ∧ W.cell? ⟨P, 1, none⟩ = some a1 ∧ W.cell? ⟨P, 2, none⟩ = some a2 ∧ W.frozen? ⟨P, 2, none⟩ = false :=
 ⟨cell_of_row _ _ 0 _ _ _ h, cell_of_row _ _ 1 _ _ _ h, cell_of_row _ _ 2 _ _ _ h, frozen_of_row _ _ 2 _ _ h⟩
end

theorem specAtomOf_any (sig : List Ct) (ct : Int) (A : Option Addr) (c : Nat) (names : List ByteArray) (gv : Value) (w : World) (hz : SmallS sig) (hcap : CapOk gv) (hl : names.length ≤ 1000) (hn : ∀ s ∈ names, s.size ≤ 1000) (hS : RSl RCt 3 w gv sig) (hA : Cells w A (strs names)) :
  Calls Tryz.prog 36 #[gv, .int .i64 ct, .slice A names.length c] w fun e w' => ∃ X : BX, e = .returned (.tuple #[.agg X.cells, .bool (ionB sig ct names)]) ∧ X.g = (if ionB sig ct names then atomG ct names (sortS names) else zeroG) ∧ RG w w' X := by
 have HS := Lib.hid (show ∀ W, Below w.heap.size w W → RSl RCt 3 W gv sig from fun W hb => hS.below RCt_keep hb)
 have HA := Lib.hid (show ∀ W, Below w.heap.size w W → Cells W A (strs names) from fun W hb => hA.below hb)
 obtain ⟨w0, hw0, hb0, hs0, hR0⟩ := laid1 w (.cells ZB 31)
 have HB0 := Lib.hid hb0
 have HR0 := Lib.hid hR0
 have H1 := Lib.hid (l3Ion_any sig ct A c names gv w0 hz hl hn (HS.out w0 hb0) (HA.out w0 hb0))
 have HW0 := Lib.hid (show w.alloc (.cells #[.int .i64 0, .slice none 0 0, .slice none 0 0, .int .i64 0, .slice none 0 0, .slice none 0 0] 31) = w0 from hw0.symm)
 clear hb0 hR0 hw0
 obtain ⟨AG, cG, rfl, _⟩ := hS.form
 clear hS hA hn hz hcap
 cases c0 : ionB sig ct names
 ·rw [c0] at H1
  clear c0
  go_enter Tryz.func36, Tryz.ntmps36
  go_wp2_with fail
  rw [HW0.out]
  (with_reducible refine H1.out.mono ?_)
  rintro e w1 ⟨rfl, hb1⟩
  have HB2 := Lib.hid hb1
  clear hb1
  have hRW := (HB2.out.block w.heap.size (by omega)).trans HR0.out
  obtain ⟨z0, z1, z2, z3, z4, z5, f0, f1, f2, f3, f4, f5⟩ := row6f hRW
  clear hRW
  go_wp2_with fail
  have hf := fin6_of (X := zeroX) HB0.out HR0.out (by have := (Kept.of_below HB2.out (fun q => w.heap.size + 1 ≤ q)).size; omega) ((Kept.of_below HB2.out (fun q => w.heap.size + 1 ≤ q))) (zero_ob _ _)
  (try simp only [Exit.inBlock, Exit.then])
  refine bodyPost_ret (rcell2 rfl _ _ w.heap.size _ _ _ _ rfl hf.1 Tryz.underlying31 rfl (by kernel_rfl)) rfl ?_
  exact ⟨_, rfl, rfl, hf.2⟩
 rw [c0] at H1
 clear c0
 go_enter Tryz.func36, Tryz.ntmps36
 go_wp2_with fail
 rw [HW0.out]
 (with_reducible refine H1.out.mono ?_)
 rintro e w1 ⟨rfl, hb1⟩
 have HC := Lib.hid (l3Atom_any ct A c names w1 hl (HA.out w1 (HB0.out.trans (hb1.mono HB0.out.size))))
 have HB2 := Lib.hid hb1
 clear hb1
 go_wp2_with fail
 (with_reducible refine HC.out.mono ?_)
 rintro e w9 ⟨X, rfl, hXg, hr⟩
 obtain ⟨xr, xe, xnv, xsv, xov, xiv, xns, xls, xss, xos, xis⟩ := X
 obtain ⟨YN, dN, YS, dS, YO, dO, YI, dI, e1, e2, e3, e4⟩ := hr.ob.form
 dsimp only at e1 e2 e3 e4
 subst e1 e2 e3 e4
 have HXG := Lib.hid hXg
 have HB9 := Lib.hid (HB2.out.trans (hr.bel.mono HB2.out.size))
 have hsw := HB2.out.size
 have HR := Lib.hid hr
 clear hXg hr HC
 simp only [BX.cells]
 have hRW := (HB9.out.block w.heap.size (by omega)).trans HR0.out
 obtain ⟨z0, z1, z2, z3, z4, z5, f0, f1, f2, f3, f4, f5⟩ := row6f hRW
 clear hRW
 go_wp2_with fail
 have hf := fin6_of (X := ⟨xr, xe, .slice YN xns.length dN, .slice YS xss.length dS, .slice YO xos.length dO, .slice YI xis.length dI, xns, xls, xss, xos, xis⟩) HB0.out HR0.out (by have := (Kept.of_below HB9.out (fun q => w.heap.size + 1 ≤ q)).size; omega) ((Kept.of_below HB9.out (fun q => w.heap.size + 1 ≤ q))) (HR.out.ob.mono (by omega))
 (try simp only [Exit.inBlock, Exit.then])
 refine bodyPost_ret (rcell2 rfl _ _ w.heap.size _ _ _ _ rfl hf.1 Tryz.underlying31 rfl (by kernel_rfl)) rfl ?_
 exact ⟨_, rfl, (by first | exact HXG.out | (rw [if_pos rfl]; exact HXG.out)), hf.2⟩
theorem single_any (sig : List Ct) (ct : Int) (A : Option Addr) (c : Nat) (names : List ByteArray) (gv : Value) (w : World) (hz : SmallS sig) (hcap : CapOk gv) (hl : names.length ≤ 1000) (hn : ∀ s ∈ names, s.size ≤ 1000) (hS : RSl RCt 3 w gv sig) (hA : Cells w A (strs names)) :
    Calls Tryz.prog 114 #[gv, .int .i64 ct, .slice A names.length c] w fun e w' => ∃ X : BX, e = .returned (.tuple #[.agg X.cells, .bool (ionB sig ct names)]) ∧ X.g = (if ionB sig ct names then atomG ct names (sortS names) else zeroG) ∧ RG w w' X := by
  have HS := Lib.hid (show ∀ W, Below w.heap.size w W → RSl RCt 3 W gv sig from fun W hb => hS.below RCt_keep hb)
  have HA := Lib.hid (show ∀ W, Below w.heap.size w W → Cells W A (strs names) from fun W hb => hA.below hb)
  obtain ⟨w0, hw0, hb0, hs0, hR0⟩ := laid1 w (.cells ZB 31)
  have HB0 := Lib.hid hb0
  have HR0 := Lib.hid hR0
  have HC1 := Lib.hid (isSignature_any gv sig w0 hz hcap (HS.out w0 hb0))
  have HW0 := Lib.hid (show w.alloc (.cells #[.int .i64 0, .slice none 0 0, .slice none 0 0, .int .i64 0, .slice none 0 0, .slice none 0 0] 31) = w0 from hw0.symm)
  clear hb0 hR0 hw0
  have HC4 := Lib.hid (show ∀ W, Below w.heap.size w W → Calls Tryz.prog 117 #[.slice A names.length c, .func (.func 193) #[] #[]] W (fun e w' => e = .returned (.bool (!allNamesB names)) ∧ Below W.heap.size W w') from fun W hb => notName2_anyAll A c names W hl hn (hA.below hb))
  have HQ := Lib.hid within_any
  have hsl := hz.len
  have HPT := Lib.hid (show ionB sig ct names = (sigB sig && inB ct 0 ((sig.length : Int) - 1) && ((names.length : Int) == portsA sig ct) && allNamesB names) from rfl)
  obtain ⟨AG, cG, rfl, _⟩ := hS.form
  clear hS hA hn hz hcap
  cases c0 : (sigB sig)
  · have HE := Lib.hid (show ionB sig ct names = false from by rw [HPT.out, c0]; first | done | rfl)
    rw [c0] at HC1
    rw [HE.out]
    go_enter Tryz.func114, Tryz.ntmps114
    go_wp2_with fail
    rw [HW0.out]
    (with_reducible refine HC1.out.mono ?_)
    rintro e w1 ⟨rfl, hb⟩
    have HB1 := Lib.hid hb
    clear hb HC1
    have hRW := (HB1.out.block w.heap.size (by omega)).trans HR0.out
    obtain ⟨z0, z1, z2, z3, z4, z5, f0, f1, f2, f3, f4, f5⟩ := row6f hRW
    clear hRW
    go_wp2_with fail
    have hf := fin6_of (X := zeroX) HB0.out HR0.out (by have := (Kept.of_below HB1.out (fun q => w.heap.size + 1 ≤ q)).size; omega) ((Kept.of_below HB1.out (fun q => w.heap.size + 1 ≤ q))) (zero_ob _ _)
    (try simp only [Exit.inBlock, Exit.then])
    refine bodyPost_ret (rcell2 rfl _ _ w.heap.size _ _ _ _ rfl hf.1 Tryz.underlying31 rfl (by kernel_rfl)) rfl ?_
    exact ⟨_, rfl, rfl, hf.2⟩
  cases c1 : (inB ct 0 ((sig.length : Int) - 1))
  · have HE := Lib.hid (show ionB sig ct names = false from by rw [HPT.out, c0, c1]; first | done | rfl)
    rw [c0] at HC1
    have HIN := Lib.hid (show ∀ w, Calls Tryz.prog 90 #[.int .i64 ct, .int .i64 0, .int .i64 ((sig.length : Int) - 1)] w (fun e w' => e = .returned (.bool false) ∧ w = w') from fun w => by have h := HQ.out ct 0 ((sig.length : Int) - 1) w; rw [c1] at h; exact h)
    rw [HE.out]
    go_enter Tryz.func114, Tryz.ntmps114
    go_wp2_with fail
    rw [HW0.out]
    (with_reducible refine HC1.out.mono ?_)
    rintro e w1 ⟨rfl, hb⟩
    have HB1 := Lib.hid hb
    clear hb HC1
    go_wp2_with fail
    (with_reducible refine (HIN.out _).mono ?_)
    rintro e w' ⟨rfl, rfl⟩
    have hRW := (HB1.out.block w.heap.size (by omega)).trans HR0.out
    obtain ⟨z0, z1, z2, z3, z4, z5, f0, f1, f2, f3, f4, f5⟩ := row6f hRW
    clear hRW
    go_wp2_with fail
    have hf := fin6_of (X := zeroX) HB0.out HR0.out (by have := (Kept.of_below HB1.out (fun q => w.heap.size + 1 ≤ q)).size; omega) ((Kept.of_below HB1.out (fun q => w.heap.size + 1 ≤ q))) (zero_ob _ _)
    (try simp only [Exit.inBlock, Exit.then])
    refine bodyPost_ret (rcell2 rfl _ _ w.heap.size _ _ _ _ rfl hf.1 Tryz.underlying31 rfl (by kernel_rfl)) rfl ?_
    exact ⟨_, rfl, rfl, hf.2⟩
  cases c2 : ((names.length : Int) == portsA sig ct)
  · have HE := Lib.hid (show ionB sig ct names = false from by rw [HPT.out, c0, c1, c2]; first | done | rfl)
    rw [c0] at HC1
    have HIN := Lib.hid (show ∀ w, Calls Tryz.prog 90 #[.int .i64 ct, .int .i64 0, .int .i64 ((sig.length : Int) - 1)] w (fun e w' => e = .returned (.bool true) ∧ w = w') from fun w => by have h := HQ.out ct 0 ((sig.length : Int) - 1) w; rw [c1] at h; exact h)
    obtain ⟨z0, z1⟩ := inB_true c1
    obtain ⟨m, rfl⟩ := Int.eq_ofNat_of_zero_le z0
    have hml : m < sig.length := by omega
    have HPO := Lib.hid (show portsA sig (m : Int) = sig[m].2.1 from by unfold portsA; rw [Int.toNat_natCast, ctA_get hml])
    rw [HE.out]
    go_enter Tryz.func114, Tryz.ntmps114
    go_wp2_with fail
    rw [HW0.out]
    (with_reducible refine HC1.out.mono ?_)
    rintro e w1 ⟨rfl, hb⟩
    have HB1 := Lib.hid hb
    obtain ⟨b', o', c', eS, _, s1, _⟩ := ct_at (HS.out w1 (HB0.out.trans (hb.mono HB0.out.size))) hml
    cases eS
    have q0 : (0 : Int) ≤ (m : Int) := by omega
    have q1 : (m : Int) < (sig.length : Int) := by omega
    rw [HPO.out] at c2
    obtain ⟨y, hy⟩ : ∃ y, y = sig[m].2.1 := ⟨_, rfl⟩
    rw [← hy] at s1 c2
    clear hy
    have qn : ((names.length : Int) != y) = true := by unfold bne; rw [c2]; rfl
    clear hb HC1
    go_wp2_with fail
    (with_reducible refine (HIN.out _).mono ?_)
    rintro e w' ⟨rfl, rfl⟩
    have hRW := (HB1.out.block w.heap.size (by omega)).trans HR0.out
    obtain ⟨z0, z1, z2, z3, z4, z5, f0, f1, f2, f3, f4, f5⟩ := row6f hRW
    clear hRW
    go_wp2_with fail
    have hf := fin6_of (X := zeroX) HB0.out HR0.out (by have := (Kept.of_below HB1.out (fun q => w.heap.size + 1 ≤ q)).size; omega) ((Kept.of_below HB1.out (fun q => w.heap.size + 1 ≤ q))) (zero_ob _ _)
    (try simp only [Exit.inBlock, Exit.then])
    refine bodyPost_ret (rcell2 rfl _ _ w.heap.size _ _ _ _ rfl hf.1 Tryz.underlying31 rfl (by kernel_rfl)) rfl ?_
    exact ⟨_, rfl, rfl, hf.2⟩
  cases c3 : (allNamesB names)
  · have HE := Lib.hid (show ionB sig ct names = false from by rw [HPT.out, c0, c1, c2, c3]; first | done | rfl)
    rw [c0] at HC1
    have HIN := Lib.hid (show ∀ w, Calls Tryz.prog 90 #[.int .i64 ct, .int .i64 0, .int .i64 ((sig.length : Int) - 1)] w (fun e w' => e = .returned (.bool true) ∧ w = w') from fun w => by have h := HQ.out ct 0 ((sig.length : Int) - 1) w; rw [c1] at h; exact h)
    rw [c3] at HC4
    obtain ⟨z0, z1⟩ := inB_true c1
    obtain ⟨m, rfl⟩ := Int.eq_ofNat_of_zero_le z0
    have hml : m < sig.length := by omega
    have HPO := Lib.hid (show portsA sig (m : Int) = sig[m].2.1 from by unfold portsA; rw [Int.toNat_natCast, ctA_get hml])
    rw [HE.out]
    go_enter Tryz.func114, Tryz.ntmps114
    go_wp2_with fail
    rw [HW0.out]
    (with_reducible refine HC1.out.mono ?_)
    rintro e w1 ⟨rfl, hb⟩
    have HB1 := Lib.hid hb
    obtain ⟨b', o', c', eS, _, s1, _⟩ := ct_at (HS.out w1 (HB0.out.trans (hb.mono HB0.out.size))) hml
    cases eS
    have q0 : (0 : Int) ≤ (m : Int) := by omega
    have q1 : (m : Int) < (sig.length : Int) := by omega
    rw [HPO.out] at c2
    obtain ⟨y, hy⟩ : ∃ y, y = sig[m].2.1 := ⟨_, rfl⟩
    rw [← hy] at s1 c2
    clear hy
    have qn : ((names.length : Int) != y) = false := by unfold bne; rw [c2]; rfl
    clear hb HC1
    go_wp2_with fail
    (with_reducible refine (HIN.out _).mono ?_)
    rintro e w' ⟨rfl, rfl⟩
    have HC := Lib.hid (HC4.out w1 (HB0.out.trans (HB1.out.mono HB0.out.size)))
    go_wp2_with fail
    (with_reducible refine HC.out.mono ?_)
    rintro e w2 ⟨rfl, hb⟩
    have HB2 := Lib.hid (HB1.out.trans (hb.mono HB1.out.size))
    have hs2 := HB2.out.size
    clear hb HC HC4
    have hRW := (HB2.out.block w.heap.size (by omega)).trans HR0.out
    obtain ⟨z0, z1, z2, z3, z4, z5, f0, f1, f2, f3, f4, f5⟩ := row6f hRW
    clear hRW
    go_wp2_with fail
    have hf := fin6_of (X := zeroX) HB0.out HR0.out (by have := (Kept.of_below HB2.out (fun q => w.heap.size + 1 ≤ q)).size; omega) ((Kept.of_below HB2.out (fun q => w.heap.size + 1 ≤ q))) (zero_ob _ _)
    (try simp only [Exit.inBlock, Exit.then])
    refine bodyPost_ret (rcell2 rfl _ _ w.heap.size _ _ _ _ rfl hf.1 Tryz.underlying31 rfl (by kernel_rfl)) rfl ?_
    exact ⟨_, rfl, rfl, hf.2⟩
  have HE := Lib.hid (show ionB sig ct names = true from by rw [HPT.out, c0, c1, c2, c3]; first | done | rfl)
  rw [c0] at HC1
  have HIN := Lib.hid (show ∀ w, Calls Tryz.prog 90 #[.int .i64 ct, .int .i64 0, .int .i64 ((sig.length : Int) - 1)] w (fun e w' => e = .returned (.bool true) ∧ w = w') from fun w => by have h := HQ.out ct 0 ((sig.length : Int) - 1) w; rw [c1] at h; exact h)
  rw [c3] at HC4
  obtain ⟨z0, z1⟩ := inB_true c1
  obtain ⟨m, rfl⟩ := Int.eq_ofNat_of_zero_le z0
  have hml : m < sig.length := by omega
  have HPO := Lib.hid (show portsA sig (m : Int) = sig[m].2.1 from by unfold portsA; rw [Int.toNat_natCast, ctA_get hml])
  rw [HE.out]
  go_enter Tryz.func114, Tryz.ntmps114
  go_wp2_with fail
  rw [HW0.out]
  (with_reducible refine HC1.out.mono ?_)
  rintro e w1 ⟨rfl, hb⟩
  have HB1 := Lib.hid hb
  obtain ⟨b', o', c', eS, _, s1, _⟩ := ct_at (HS.out w1 (HB0.out.trans (hb.mono HB0.out.size))) hml
  cases eS
  have q0 : (0 : Int) ≤ (m : Int) := by omega
  have q1 : (m : Int) < (sig.length : Int) := by omega
  rw [HPO.out] at c2
  obtain ⟨y, hy⟩ : ∃ y, y = sig[m].2.1 := ⟨_, rfl⟩
  rw [← hy] at s1 c2
  clear hy
  have qn : ((names.length : Int) != y) = false := by unfold bne; rw [c2]; rfl
  clear hb HC1
  go_wp2_with fail
  (with_reducible refine (HIN.out _).mono ?_)
  rintro e w' ⟨rfl, rfl⟩
  have HC := Lib.hid (HC4.out w1 (HB0.out.trans (HB1.out.mono HB0.out.size)))
  go_wp2_with fail
  (with_reducible refine HC.out.mono ?_)
  rintro e w2 ⟨rfl, hb⟩
  have HB2 := Lib.hid (HB1.out.trans (hb.mono HB1.out.size))
  have hs2 := HB2.out.size
  clear hb HC HC4
  have HC := Lib.hid (sortedNames_any A c names w2 (by omega) (HA.out w2 (HB0.out.trans (HB2.out.mono HB0.out.size))))
  clear s1 q0 q1 c2 qn HQ HIN
  go_wp2_with fail
  (with_reducible refine HC.out.mono ?_)
  rintro e w3 ⟨u, rfl, hu, hb3⟩
  obtain ⟨outs, ho⟩ : ∃ outs, outs = sortS names := ⟨_, rfl⟩
  rw [← ho] at hu
  have hol : outs.length ≤ 1000 := by rw [ho]; exact Nat.le_trans (sortS_len names) (by omega)
  obtain ⟨AO, cO, rfl, hu⟩ := owns_form hu
  have HOUT := Lib.hid ho
  have HU := Lib.hid (owns_mono hu (show w.heap.size + 1 ≤ w2.heap.size by omega))
  have HB3 := Lib.hid (HB2.out.trans (hb3.mono HB2.out.size))
  have hs3 := HB3.out.size
  clear hu hb3 HC ho
  obtain ⟨ct, hct⟩ : ∃ ct, ct = (m : Int) := ⟨_, rfl⟩
  rw [← hct]
  have HCT := Lib.hid hct
  clear hct
  obtain ⟨wN, hwN, hbn, hsn, hPn, hPm⟩ := laid2 w3 (.cells #[.int .i64 1, .slice none 0 0, .slice none 0 0, .int .i64 0, .slice AO outs.length cO, .slice none 0 0] 31) (.cells #[.int .i64 ct, .int .i64 (-1), .slice none 0 0] 88)
  have HBN := Lib.hid (HB0.out.trans (HB3.out.mono HB0.out.size))
  have HRN := Lib.hid ((HB3.out.block w.heap.size (by omega)).trans HR0.out)
  have HG0 := Lib.hid (show SN w3 (w.heap.size + 1) w3.heap.size (w3.heap.size + 1) ct (.slice AO outs.length cO) nilV nilV outs ((List.range 0).map (fun i : Nat => atS outs (names.getD i default))) wN from { k := Kept.of_below hbn _, bo := hPn, bn := hPm, oo := owns_below HU.out hbn (Nat.le_refl _), lo := none_row })
  have HWN := Lib.hid hwN
  clear hwN hbn hPn hPm
  go_wp2_with fail
  rw [← HWN.out]
  go_loopw [45] (fun i wr => ∃ (j : Nat) (lv : Value), j ≤ names.length ∧ i = .int .i64 j ∧ SN w3 (w.heap.size + 1) w3.heap.size (w3.heap.size + 1) ct (.slice AO outs.length cO) lv lv outs ((List.range j).map (fun i : Nat => atS outs (names.getD i default))) wr)
    (fun i _ => names.length - (intOf i).toNat)
  case atStart => exact ⟨0, nilV, Nat.zero_le _, rfl, HG0.out⟩
  obtain ⟨j, lv, hj, rfl, hG⟩ := hrel
  have hI := hG.row
  obtain ⟨AL, cL, rfl, hI⟩ := owns_form hI
  have hsz : w.heap.size + 1 ≤ wr.heap.size := by have := hG.k.size; omega
  have HI := Lib.hid hI
  have hkb := HBN.out.trans (hG.k.below (B := w.heap.size) (fun b hb => by omega) (by omega))
  have HG := Lib.hid hG
  clear hI
  by_cases hlt : j < names.length
  · obtain ⟨b, o, rfl, hc⟩ := (HA.out wr hkb).str hlt
    obtain ⟨s, hse⟩ : ∃ s, s = names.getD j default := ⟨_, rfl⟩
    have k0 := hc j hlt
    rw [← hse] at k0
    have HSE := Lib.hid hse
    clear hc hse hG hkb
    have b0 : (0 : Int) ≤ (j : Int) := by omega
    have b1 : (j : Int) < (names.length : Int) := by omega
    go_wp2_with fail
    clear k0
    refine wp_region_ph (by kernel_rfl) [some 49, some 50, some 51, some 52, some 53, some 54, some 55, some 56, some 57, none] (fun q v => match q with | 0 => v = .pointer (some ⟨w3.heap.size + 1, 2, none⟩) | 1 => v = .slice AL j cL | 2 => v = .pointer (some ⟨w3.heap.size, 4, none⟩) | 3 => v = .slice AO outs.length cO | 4 => v = .string s | 5 => v = .int .i64 (atS outs s) | 6 => ∃ gz, v = .slice (some ⟨gz, 0, none⟩) 1 1 | 7 => True | 8 => v = .pointer (some ⟨w3.heap.size + 1, 2, none⟩) | 9 => True | _ => True) (fun q v W => match q with | 0 => True | 1 => True | 2 => True | 3 => True | 4 => True | 5 => True | 6 => ∀ g, v = .slice (some ⟨g, 0, none⟩) 1 1 → 0 ≤ g ∧ W.heap[g]? = some (.cells #[.int .i64 (atS outs s)] 3) | 7 => True | 8 => True | 9 => True | _ => True) (fun W W' => Below W.heap.size W W') 7 9 (fun kk W => SN w3 (w.heap.size + 1) w3.heap.size (w3.heap.size + 1) ct (.slice AO outs.length cO) (.slice AL j cL) (.slice AL j cL) outs ((List.range j).map (fun i : Nat => atS outs (names.getD i default))) W) (fun v W => (∃ A2 c2, v = .slice A2 (j + 1) c2) ∧ SN w3 (w.heap.size + 1) w3.heap.size (w3.heap.size + 1) ct (.slice AO outs.length cO) v (.slice AL j cL) outs ((List.range (j + 1)).map (fun i : Nat => atS outs (names.getD i default))) W) (fun v W => (∃ A2 c2, v = .slice A2 (j + 1) c2) ∧ SN w3 (w.heap.size + 1) w3.heap.size (w3.heap.size + 1) ct (.slice AO outs.length cO) v v outs ((List.range (j + 1)).map (fun i : Nat => atS outs (names.getD i default))) W) (by kernel_rfl) (by kernel_rfl) (by kernel_rfl) (by decide) (by decide) ?m1o ?r1s ?h10 ?s1t ?f1i
    case m1o => exact fun k k' W h hd => hd
    case r1s =>
      intro q v W W' ht h
      match q, h with
      | 0, h | 1, h | 2, h | 3, h | 4, h | 5, h | 7, h | 8, h | 9, h => exact h
      | 6, h => exact fun g e => ⟨(h g e).1, (ht.block g (Array.getElem?_eq_some_iff.1 (h g e).2).1).trans (h g e).2⟩
      | q + 10, _ => trivial
    case h10 => exact HG.out.lay (Below.refl _ _).drew
    case s1t =>
      as_aux_lemma =>
        intro L act W q oo hJ hL hA hS ho hd K3 hK3
        match q, ho with
        | 0, ho =>
          cases ho
          have a9 : act.tmps[9]? = some _ := hJ.out 9 (by decide)
          clear hJ hd
          go_simp
          exact hK3 _ _ (.same (by decide) (by decide) rfl rfl (fun _ => trivial))
        | 1, ho =>
          cases ho
          simp [Region.binds] at hd
          have v0 := hJ.val (by simp [hd] : L 0 = true) rfl fun _ h => h
          have hn : L 7 = false := hA (by kernel_rfl)
          have hD := hJ.d hn
          obtain ⟨_, _, z2, _⟩ := row3 hD.bn
          have HD := Lib.hid hD
          clear hD hJ hd
          go_simp
          exact hK3 _ _ (.same (by decide) (by decide) rfl rfl (fun _ => trivial))
        | 2, ho =>
          cases ho
          have a8 : act.tmps[8]? = some _ := hJ.out 8 (by decide)
          clear hJ hd
          go_simp
          exact hK3 _ _ (.same (by decide) (by decide) rfl rfl (fun _ => trivial))
        | 3, ho =>
          cases ho
          simp [Region.binds] at hd
          have v2 := hJ.val (by simp [hd] : L 2 = true) rfl fun _ h => h
          have hn : L 7 = false := hA (by kernel_rfl)
          have hD := hJ.d hn
          obtain ⟨_, _, _, _, z4, _⟩ := row6 hD.bo
          have HD := Lib.hid hD
          clear hD hJ hd
          go_simp
          exact hK3 _ _ (.same (by decide) (by decide) rfl rfl (fun _ => trivial))
        | 4, ho =>
          cases ho
          have a11 : act.tmps[11]? = some _ := hJ.out 11 (by decide)
          clear hJ hd
          go_simp
          exact hK3 _ _ (.same (by decide) (by decide) rfl rfl (fun _ => trivial))
        | 5, ho =>
          cases ho
          simp [Region.binds] at hd
          have v3 := hJ.val (by simp [hd] : L 3 = true) rfl fun _ h => h
          have v4 := hJ.val (by simp [hd] : L 4 = true) rfl fun _ h => h
          have hn : L 7 = false := hA (by kernel_rfl)
          have hD := hJ.d hn
          have HD := Lib.hid hD
          clear hJ hd hD
          go_simp
          go_at_call 121
          refine ((show Calls Tryz.prog 121 #[.slice AO outs.length cO, .string s] W (fun e w' => e = .returned (.int .i64 (atS outs s)) ∧ W = w') from by have h := indexS_any AO cO outs s W (by omega) (Cells.of_owns HD.out.oo); rw [idx_atS] at h; exact h)).mono ?_
          rintro e W' ⟨rfl, hb⟩
          go_simp
          exact hK3 _ _ (.lay (by decide) (by decide) rfl hn (by first | exact Below.refl _ _ | (rw [← hb]; exact Below.refl _ _)) trivial (by first | exact HD.out | (rw [← hb]; exact HD.out)))
        | 6, ho =>
          cases ho
          simp [Region.binds] at hd
          have v5 := hJ.val (by simp [hd] : L 5 = true) rfl fun _ h => h
          have hn : L 7 = false := hA (by kernel_rfl)
          have hD := hJ.d hn
          have HD := Lib.hid hD
          clear hJ hd hD
          go_simp
          exact hK3 _ _ (.lay (by decide) (by decide) ⟨_, rfl⟩ hn ((Below.refl _ _).alloc (Nat.le_refl _) _) (fun g e => by injection e with e1; injection e1 with e2; injection e2 with e3; subst e3; exact ⟨Nat.zero_le _, heap_alloc_new _ _⟩) (HD.out.lay ((Below.refl _ _).alloc (Nat.le_refl _) _)))
        | 7, ho =>
          cases ho
          simp [Region.binds] at hd
          have v1 := hJ.val (by simp [hd] : L 1 = true) rfl fun _ h => h
          have l6 : L 6 = true := by simp [hd]
          obtain ⟨u6, v6, ⟨gz, rfl⟩, hr6⟩ := hJ.has 6 55 l6 rfl
          have hn : L 7 = false := hA (by kernel_rfl)
          have hD := hJ.d hn
          obtain ⟨hg1, hg2⟩ := hr6 hn gz rfl
          clear hJ hd
          refine step_appM el_intG rfl (.tmp 50) (.tmp 55) rfl (w.heap.size + 1) ((.slice AL j cL)) j (ints ((List.range j).map (fun i : Nat => atS outs (names.getD i default)))) (by simp [Act.eval, *]) (hD.row) ⟨gz, 0, none⟩ 1 1 [.int .i64 (atS outs s)] (by simp [Act.eval, *]) (by decide) rfl (fun j' u' hj' => by rw [show (⟨gz, 0, none⟩ : Addr).add j' = ⟨gz, j', none⟩ from by simp [Addr.add, eq_comm], cell_of_row W gz _ _ _ _ hg2]; simpa using hj') (one1 rfl) (by omega) (by have := hD.k.size; omega) ?_
          intro v' W' ho hk hm
          exact hK3 _ _ (.app rfl (by decide) trivial (⟨by obtain ⟨A2, c2, e, _⟩ := owns_form ho; exact ⟨A2, c2, e⟩, hD.app (by rw [List.length_map, List.length_range, rm_succ, ints_app, ← HSE.out]; exact ho) hk⟩))
        | 8, ho =>
          cases ho
          have a9 : act.tmps[9]? = some _ := hJ.out 9 (by decide)
          clear hJ hd
          go_simp
          exact hK3 _ _ (.same (by decide) (by decide) rfl rfl (fun _ => trivial))
        | 9, ho =>
          cases ho
          simp [Region.binds] at hd
          have v8 := hJ.val (by simp [hd] : L 8 = true) rfl fun _ h => h
          have l7 : L 7 = true := by simp [hd]
          obtain ⟨u, hu, hE⟩ := hJ.e l7 hL
          have v7 := hu 56 rfl
          clear hJ hd
          obtain ⟨⟨A2, c2, rfl⟩, hE⟩ := hE
          obtain ⟨_, _, z2, f2⟩ := row3 hE.bn
          have HFF := Lib.hid ((⟨⟨A2, c2, rfl⟩, hE.put (by omega) (by omega)⟩ : (∃ A2 c2, _ = Value.slice A2 (j + 1) c2) ∧ SN w3 (w.heap.size + 1) w3.heap.size (w3.heap.size + 1) ct (.slice AO outs.length cO) (.slice A2 (j + 1) c2) (.slice A2 (j + 1) c2) outs ((List.range (j + 1)).map (fun i : Nat => atS outs (names.getD i default))) _))
          clear hE
          go_simp
          exact hK3 undef _ (.store rfl (by decide) trivial _ hu HFF.out)
        | q + 10, ho => simp at ho
    intro V W hF hV
    obtain ⟨v, hv, hF⟩ := hF
    have v7 : V 7 = v := hv 56 rfl
    have v0 : V 0 = _ := hV 0 49 rfl
    have v1 : V 1 = _ := hV 1 50 rfl
    have v2 : V 2 = _ := hV 2 51 rfl
    have v3 : V 3 = _ := hV 3 52 rfl
    have v4 : V 4 = _ := hV 4 53 rfl
    have v5 : V 5 = _ := hV 5 54 rfl
    obtain ⟨gz6, v6⟩ : ∃ gz, V 6 = .slice (some ⟨gz, 0, none⟩) 1 1 := hV 6 55 rfl
    have v8 : V 8 = _ := hV 8 57 rfl
    clear hV hv
    simp only [layV, List.setIfInBounds_toArray, List.set_cons_zero, List.set_cons_succ, v0, v1, v2, v3, v4, v5, v6, v8, v7]
    clear v0 v1 v2 v3 v4 v5 v6 v8 v7
    obtain ⟨⟨A2, c2, rfl⟩, hG⟩ := hF
    have HG2 := Lib.hid hG
    clear hG
    go_wp2_with fail
    go_roundw
    case rel => exact ⟨j + 1, _, by omega, by go_num, HG2.out⟩
    case measure => simp [intOf]; omega
  obtain rfl : j = names.length := by omega
  clear hkb
  obtain ⟨wq, hwq, hbq, hsq, hgq⟩ := laid1 wr (.cells #[.int .i64 ct, .int .i64 (-1), .slice AL names.length cL] 88)
  obtain ⟨y0, y1, y2, _⟩ := row3 HG.out.bn
  have hq := HG.out.lay hbq
  have hnode := ownsNew wr [.int .i64 ct, .int .i64 (-1), .slice AL names.length cL] 88 3 1 rfl (by decide)
  rw [← (show wr.alloc (.cells #[.int .i64 ct, .int .i64 (-1), .slice AL names.length cL] 88) = wq from hwq.symm)] at hq
  have hq : SN w3 (w.heap.size + 1) w3.heap.size (w3.heap.size + 1) ct (.slice AO outs.length cO) (.slice AL names.length cL) (.slice AL names.length cL) outs ((List.range names.length).map (fun i : Nat => atS outs (names.getD i default))) wq := by rw [hwq]; exact hq
  have hnode : wq.ownsRow wr.heap.size 88 3 (.slice (some ⟨wr.heap.size, 0, none⟩) 1 1) 1 [.int .i64 ct, .int .i64 (-1), .slice AL names.length cL] := by rw [hwq]; exact hnode
  have HGQ := Lib.hid (show GT w3 (w.heap.size + 1) w3.heap.size #[.int .i64 1, nilV, nilV, .int .i64 0, .slice AO outs.length cO, nilV] ⟨1, 0, .slice (some ⟨wr.heap.size, 0, none⟩) 1 1, nilV, .slice AO outs.length cO, nilV, [(ct, -1, names.map (atS outs))], [.slice AL names.length cL], [], outs, []⟩ wq from
    { k := hq.k.mono fun q hq => .inr hq, box := hq.bo
      ob := { N := { own := owns_mono hnode (by omega), len := rfl, dis := fun i j l l' b hij h1 h2 => by
                       have := (List.getElem?_eq_some_iff.1 h2).1
                       simp at this; omega
                     sep := fun i l b _ _ h => by simp [Value.ownBlock] at h
                     lk := fun i l x h1 h2 => by
                       have hi := (List.getElem?_eq_some_iff.1 h1).1
                       have hi0 : i = 0 := by simp at hi; omega
                       subst hi0
                       simp at h1 h2
                       subst h1
                       subst h2
                       have h3 := hq.row
                       rw [map_getD default (atS outs) names]
                       simpa using h3 }
              S := none_row, I := none_row, O := hq.oo } })
  have HWQ := Lib.hid hwq
  have x1 := cell_of_row wq _ 1 _ _ _ HGQ.out.box
  have f1' := frozen_of_row wq _ 1 _ _ HGQ.out.box
  have HG3 := Lib.hid (HGQ.out.put 1 (.slice (some ⟨wr.heap.size, 0, none⟩) 1 1))
  clear hwq hbq hgq hq hnode HG hG
  have x0 := HG3.out.cell (f := 0) (u := .int .i64 1) rfl
  have x1' := HG3.out.cell (f := 1) (u := .slice (some ⟨wr.heap.size, 0, none⟩) 1 1) rfl
  have x2 := HG3.out.cell (f := 2) (u := .slice none 0 0) rfl
  have x3 := HG3.out.cell (f := 3) (u := .int .i64 0) rfl
  have x4 := HG3.out.cell (f := 4) (u := .slice AO outs.length cO) rfl
  have x5 := HG3.out.cell (f := 5) (u := .slice none 0 0) rfl
  have hRW := (HG3.out.k.block w.heap.size (by have := (Array.getElem?_eq_some_iff.1 HRN.out).1; exact this) (by omega)).trans HRN.out
  obtain ⟨z0, z1, z2, z3, z4, z5, f0, f1, f2, f3, f4, f5⟩ := row6f hRW
  clear hRW
  go_wp2_with (rw [← HWQ.out])
  have hf := fin6 HBN.out HRN.out (by omega) HG3.out
  (try simp only [Exit.inBlock, Exit.then])
  refine bodyPost_ret (rcell2 rfl _ _ w.heap.size _ _ _ _ rfl hf.1 Tryz.underlying31 rfl (by kernel_rfl)) rfl ?_
  exact ⟨_, rfl, (by rw [← HOUT.out, ← HCT.out]; rfl), hf.2⟩

end Go.Proofs.YtijkdpdmclkmlaaGreatDoor
