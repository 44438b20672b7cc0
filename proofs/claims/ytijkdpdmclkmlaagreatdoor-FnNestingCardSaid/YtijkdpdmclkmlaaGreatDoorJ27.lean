/- A bigraph with other edges and outer names, each link turned: relinked walked. -/
import Derived.Test.YtijkdpdmclkmlaaGreatDoorProg
import Derived.Test.YtijkdpdmclkmlaaGreatDoorJ0
import Derived.Test.YtijkdpdmclkmlaaGreatDoorJ4
import Derived.Test.YtijkdpdmclkmlaaGreatDoorJ26
import Derived.Test.YtijkdpdmclkmlaaGreatDoorJ10
import Derived.BigQuiet
set_option linter.unusedSimpArgs false
set_option linter.unusedVariables false
set_option maxRecDepth 100000
set_option maxHeartbeats 16000000
namespace Go.Proofs.YtijkdpdmclkmlaaGreatDoor
open Go.RowKit
/-- A row of outer names in place of the one that was there. -/
theorem GT.newO {w W : World} {B P : Nat} {bx : Array Value} {X : BX} (h : GT w B P bx X W) {v : Value} {os : List ByteArray} (ho : W.ownsRow B 9 1 v os.length (strs os)) : GT w B P bx { X with ov := v, os := os } W :=
  { h with ob := { N := h.ob.N, S := h.ob.S, O := ho, I := h.ob.I } }
/-- Both stores of 'out.Edges, out.Outer = ..': what holds by what has come up. -/
structure RL (wz : World) (B P : Nat) (X : BX) (ed : Int) (outs : List ByteArray) (l2 l4 l6 : Bool) (v2 : Value) (W : World) : Prop where
 g : l6 = false → GT wz B P (if l4 then X.cells.setIfInBounds 3 (.int .i64 ed) else X.cells) X W
 o : l2 = true → l6 = false → W.ownsRow wz.heap.size 9 1 v2 outs.length (strs outs)
 z : B ≤ wz.heap.size
 e : l6 = true → GT wz B P (BX.cells { X with e := ed, ov := v2, os := outs }) { X with e := ed, ov := v2, os := outs } W
section
variable {wz W W' : World} {B P : Nat} {X : BX} {ed : Int} {outs : List ByteArray} {l2 l4 l6 : Bool} {v v2 : Value}
theorem RL.start (h : GT wz B P X.cells X wz) (hz : B ≤ wz.heap.size) (v2 : Value) : RL wz B P X ed outs false false false v2 wz.drew := ⟨fun _ => h.drew, fun h => (nomatch h), hz, fun h => (nomatch h)⟩
theorem RL.size (h : RL wz B P X ed outs l2 l4 false v2 W) : wz.heap.size ≤ W.heap.size := (h.g rfl).k.size
/-- sortedNames has come up. -/
theorem RL.two (h : RL wz B P X ed outs false false false v2 W) (hb : Below W.heap.size W W') (ho : W'.ownsRow W.heap.size 9 1 v outs.length (strs outs)) : RL wz B P X ed outs true false false v W' :=
 ⟨fun _ => (h.g rfl).lay hb, fun _ _ => owns_mono ho h.size, h.z, fun h => (nomatch h)⟩
/-- The edges are stored. -/
theorem RL.four (h : RL wz B P X ed outs true false false v2 W) : RL wz B P X ed outs true true false v2 (W.setCell ⟨P, 3, none⟩ (.int .i64 ed)) := by
 have hK : Kept (fun q => q = P) W (W.setCell ⟨P, 3, none⟩ (.int .i64 ed)) := (Kept.refl _ W).setCell (S := fun q => q = P) (p := ⟨P, 3, none⟩) rfl _
 exact ⟨fun _ => (h.g rfl).put 3 _, fun _ _ => ownsK (h.o rfl rfl) hK (fun q hq e => by subst e; exact ownsT (h.o rfl rfl) (h.g rfl).box (by decide) hq), h.z, fun h => (nomatch h)⟩
/-- The outer names are stored. -/
theorem RL.six (h : RL wz B P X ed outs true true false v2 W) : RL wz B P X ed outs true true true v2 (W.setCell ⟨P, 4, none⟩ v2) :=
 ⟨fun h => (nomatch h), fun _ h => (nomatch h), h.z, fun _ => by
  have h2 := (((h.g rfl).newO (owns_mono (h.o rfl rfl) h.z)).put 4 v2)
  exact { k := h2.k, box := h2.box, ob := { N := h2.ob.N, S := h2.ob.S, O := h2.ob.O, I := h2.ob.I } }⟩
end
/-- The links of the nodes below i are turned, and the first k of node i. -/
def BX.turn (X : BX) (f : Int → Int) (i k : Nat) : BX := { X with ns := turnL f X.ns i k }
def BX.turnI (X : BX) (f : Int → Int) (k : Nat) : BX := { X with is := turnW f X.is k }
section
variable {w W : World} {B P : Nat} {bx : Array Value} {X : BX} {f : Int → Int} {i k : Nat}
theorem GT.turnL (h : GT w B P bx (X.turn f i k) W) {g c : Nat} {x : Nod} (hx : X.ns[i]? = some x) (hl : X.ls[i]? = some (.slice (some ⟨g, 0, none⟩) x.2.2.length c)) (hk : k < x.2.2.length) : GT w B P bx (X.turn f i (k + 1)) (W.setCell ⟨g, k, none⟩ (.int .i64 (f (x.2.2.getD k 0)))) := by
 have h2 := h.setL (i := i) (k := k) (x := (x.1, x.2.1, mixT f x.2.2 k)) (turnL_at hx) (by show X.ls[i]? = _; rw [hl, mixT_len]) (f (x.2.2.getD k 0))
 have e : (Go.Proofs.YtijkdpdmclkmlaaGreatDoor.turnL f X.ns i k).set i (x.1, x.2.1, (mixT f x.2.2 k).set k (f (x.2.2.getD k 0))) = Go.Proofs.YtijkdpdmclkmlaaGreatDoor.turnL f X.ns i (k + 1) := turnL_next hx hk
 unfold BX.turn at h2 ⊢
 rw [← e]
 exact h2
theorem GT.turnW (h : GT w B P bx (X.turnI f k) W) {g c : Nat} (hl : X.iv = .slice (some ⟨g, 0, none⟩) X.is.length c) (hk : k < X.is.length) : GT w B P bx (X.turnI f (k + 1)) (W.setCell ⟨g, k * 2 + 1, none⟩ (.int .i64 (f (X.is.getD k wi0).2))) := by
 have h2 := h.setW (k := k) (x := X.is.getD k wi0) (turnW_at hk) (by show X.iv = _; rw [hl]; show _ = Value.slice _ (Go.Proofs.YtijkdpdmclkmlaaGreatDoor.turnW f X.is k).length c; rw [turnW_len]) (f (X.is.getD k wi0).2)
 have e : (Go.Proofs.YtijkdpdmclkmlaaGreatDoor.turnW f X.is k).set k ((X.is.getD k wi0).1, f (X.is.getD k wi0).2) = Go.Proofs.YtijkdpdmclkmlaaGreatDoor.turnW f X.is (k + 1) := turnW_next hk
 unfold BX.turnI at h2 ⊢
 rw [← e]
 exact h2
/-- The links' row of node i while it is turned. -/
theorem GT.trow (h : GT w B P bx (X.turn f i k) W) {x : Nod} (hx : X.ns[i]? = some x) : ∃ g cc A c, X.nv = .slice (some ⟨g, 0, none⟩) X.ns.length cc ∧ X.ls[i]? = some (.slice A x.2.2.length c) ∧ W.cell? ⟨g, i * 3, none⟩ = some (.int .i64 x.1) ∧ W.cell? ⟨g, i * 3 + 1, none⟩ = some (.int .i64 x.2.1) ∧ W.cell? ⟨g, i * 3 + 2, none⟩ = some (.slice A x.2.2.length c) ∧ W.ownsRow B 3 1 (.slice A x.2.2.length c) x.2.2.length (ints (mixT f x.2.2 k)) := by
 obtain ⟨g, cc, A, c, h1, h2, h3, h4, h5, h6⟩ := h.lrow (i := i) (x := (x.1, x.2.1, mixT f x.2.2 k)) (turnL_at hx)
 have hl : (mixT f x.2.2 k).length = x.2.2.length := mixT_len _ _
 replace h1 : X.nv = .slice (some ⟨g, 0, none⟩) (Go.Proofs.YtijkdpdmclkmlaaGreatDoor.turnL f X.ns i k).length cc := h1
 rw [turnL_len] at h1
 replace h2 : X.ls[i]? = some (.slice A (mixT f x.2.2 k).length c) := h2
 replace h5 : W.cell? ⟨g, i * 3 + 2, none⟩ = some (.slice A (mixT f x.2.2 k).length c) := h5
 replace h6 : W.ownsRow B 3 1 (.slice A (mixT f x.2.2 k).length c) (mixT f x.2.2 k).length (ints (mixT f x.2.2 k)) := h6
 rw [hl] at h2 h5 h6
 exact ⟨g, cc, A, c, h1, h2, h3, h4, h5, h6⟩
end
def turnF (g : Gr) (edges : Int) (outs : List ByteArray) (turn : En → En) (l : Int) : Int := toLink edges outs (turn (endG g l))
theorem relinkG_eq (g : Gr) (edges : Int) (outs : List ByteArray) (turn : En → En) : relinkG g edges outs turn = ⟨g.roots, g.nodes.map (fun x => (x.1, x.2.1, x.2.2.map (turnF g edges outs turn))), g.sites, edges, outs, g.inner.map fun w => (w.1, turnF g edges outs turn w.2)⟩ := rfl

section
variable {w W : World} {B P : Nat} {bx : Array Value} {X : BX} {f : Int → Int} {i k : Nat}
theorem GT.tlnk (h : GT w B P bx (X.turn f i k) W) {x : Nod} {A : Option Addr} {c : Nat} (hx : X.ns[i]? = some x) (hl : X.ls[i]? = some (.slice A x.2.2.length c)) : W.ownsRow B 3 1 (.slice A x.2.2.length c) x.2.2.length (ints (mixT f x.2.2 k)) := by
 have h6 := h.ob.N.lk i _ (x.1, x.2.1, mixT f x.2.2 k) hl (turnL_at hx)
 replace h6 : W.ownsRow B 3 1 (.slice A x.2.2.length c) (mixT f x.2.2 k).length (ints (mixT f x.2.2 k)) := h6
 rw [mixT_len] at h6
 exact h6
theorem GT.tinn (h : GT w B P bx (X.turnI f k) W) {A : Option Addr} {c : Nat} (hl : X.iv = .slice A X.is.length c) : W.ownsRow B 90 2 (.slice A X.is.length c) X.is.length ((Go.Proofs.YtijkdpdmclkmlaaGreatDoor.turnW f X.is k).flatMap encWi) := by
 have h6 := h.ob.I
 replace h6 : W.ownsRow B 90 2 X.iv (Go.Proofs.YtijkdpdmclkmlaaGreatDoor.turnW f X.is k).length ((Go.Proofs.YtijkdpdmclkmlaaGreatDoor.turnW f X.is k).flatMap encWi) := h6
 rw [turnW_len, hl] at h6
 exact h6
end
theorem wis_at : ∀ {is : List Wi} {k : Nat} {x : Wi}, is[k]? = some x → (is.flatMap encWi)[k * 2]? = some (.string x.1) ∧ (is.flatMap encWi)[k * 2 + 1]? = some (.int .i64 x.2)
 | [], _, _, h => by simp at h
 | y :: is, 0, x, h => by
  simp at h
  subst h
  exact ⟨rfl, rfl⟩
 | y :: is, k + 1, x, h => by
  have := wis_at (is := is) (k := k) (x := x) (by simpa using h)
  rw [show (k + 1) * 2 + 1 = k * 2 + 1 + 1 + 1 by omega, show (k + 1) * 2 = k * 2 + 1 + 1 by omega]
  simp only [List.flatMap_cons, encWi, List.cons_append, List.nil_append, List.getElem?_cons_succ]
  exact this

theorem relinked_any (g : Gr) (nv sv ov iv : Value) (edges : Int) (Ao : Option Addr) (co : Nat) (outer : List ByteArray) (F : FuncId) (cap : Array Value) (turn : En → En) (w : World) (hs : SmallG g) (hed : -1000000 ≤ edges ∧ edges ≤ 1000000) (hon : outer.length ≤ 1000)
  (hlk : (∀ x ∈ g.nodes, ∀ l ∈ x.2.2, LinkP g l) ∧ ∀ x ∈ g.inner, LinkP g x.2) (hG : RGr w nv sv ov iv g) (hA : Cells w Ao (strs outer))
  (hF : ∀ (args : Array Value) (w : World), (callFunc F args).run Tryz.prog w = .ok (.enter F args) w)
  (hcall : ∀ (l : Int) (W : World), LinkP g l → Below w.heap.size w W → Calls Tryz.prog F (#[enV (endG g l)] ++ cap) W fun r W' => r = .returned (enV (turn (endG g l))) ∧ Below W.heap.size W W') :
  Calls Tryz.prog 219 #[.agg #[.int .i64 g.roots, nv, sv, .int .i64 g.edges, ov, iv], .int .i64 edges, .slice Ao outer.length co, .func (.func F) #[] cap] w fun e w' => ∃ X : BX, e = .returned (.agg X.cells) ∧ X.g = relinkG g edges (sortS outer) turn ∧ RG w w' X := by
 have HG := Lib.hid (show ∀ W, Below w.heap.size w W → RGr W nv sv ov iv g from fun W hb => hG.below hb)
 have HA := Lib.hid (show ∀ W, Below w.heap.size w W → Cells W Ao (strs outer) from fun W hb => hA.below hb)
 have HCALL := Lib.hid hcall
 have HLK := Lib.hid hlk
 have HSM := Lib.hid hs
 have hnl := hs.nodes
 have hil := hs.inner
 have HLL := Lib.hid (show ∀ x ∈ g.nodes, x.2.2.length ≤ 1000 from hs.links)
 have HED := Lib.hid hed
 obtain ⟨AN, cN, AS, cS, AO, cO, AI, cI, rfl, rfl, rfl, rfl⟩ := hG.form
 obtain ⟨w0, hw0, hb0, hs0, bx0, be0, bf0, hR0⟩ := laid4 w (.cells #[.int .i64 g.roots, .slice AN g.nodes.length cN, .slice AS g.sites.length cS, .int .i64 g.edges, .slice AO g.outer.length cO, .slice AI g.inner.length cI] 31) (.cells #[.int .i64 edges] 3) (.cells #[.func (.func F) #[] cap] 156) (.cells #[.int .i64 0, .slice none 0 0, .slice none 0 0, .int .i64 0, .slice none 0 0, .slice none 0 0] 31)
 have HX := Lib.hid (keepB bx0)
 have HXE := Lib.hid (keepB be0)
 have HXF := Lib.hid (keepB bf0)
 have HRR := Lib.hid (keepB hR0)
 have HB0 := Lib.hid hb0
 have HR0 := Lib.hid hR0
 have HS0 := Lib.hid hs0
 have HW0 := Lib.hid hw0
 have HOWN := Lib.hid (ownBigraph_any g _ _ _ _ w0 hs (HG.out w0 hb0))
 obtain ⟨x0, x1, x2, x3, x4, x5⟩ := row6 bx0
 rw [hw0] at x0 x1 x2 x3 x4 x5
 clear hG hA hcall hlk hs hed hb0 hs0 bx0 be0 bf0 hR0 hw0
 go_enter Tryz.func219, Tryz.ntmps219
 go_wp2_with fail
 rw [← HW0.out]
 (with_reducible refine HOWN.out.mono ?_)
 rintro e w1 ⟨X, rfl, hXg, hr⟩
 obtain ⟨xr, xe, xnv, xsv, xov, xiv, xns, xls, xss, xos, xis⟩ := X
 obtain ⟨AN2, cN2, AS2, cS2, AO2, cO2, AI2, cI2, e1, e2, e3, e4⟩ := hr.ob.form
 obtain rfl : xr = g.roots := congrArg Gr.roots hXg
 obtain rfl : xns = g.nodes := congrArg Gr.nodes hXg
 obtain rfl : xss = g.sites := congrArg Gr.sites hXg
 obtain rfl : xe = g.edges := congrArg Gr.edges hXg
 obtain rfl : xos = g.outer := congrArg Gr.outer hXg
 obtain rfl : xis = g.inner := congrArg Gr.inner hXg
 dsimp only at e1 e2 e3 e4
 subst e1 e2 e3 e4
 obtain ⟨X1, hX1⟩ : ∃ X1, X1 = (⟨g.roots, g.edges, .slice AN2 g.nodes.length cN2, .slice AS2 g.sites.length cS2, .slice AO2 g.outer.length cO2, .slice AI2 g.inner.length cI2, g.nodes, xls, g.sites, g.outer, g.inner⟩ : BX) := ⟨_, rfl⟩
 have HX1 := Lib.hid hX1
 rw [← hX1] at hr
 simp only [BX.cells]
 clear hXg HOWN x0 x1 x2 x3 x4 x5
 obtain ⟨wN, hwN, hbN, -⟩ := laid1 w1 (.cells #[.int .i64 g.roots, .slice AN2 g.nodes.length cN2, .slice AS2 g.sites.length cS2, .int .i64 g.edges, .slice AO2 g.outer.length cO2, .slice AI2 g.inner.length cI2] 31)
 have HBN := Lib.hid (hr.bel.trans (hbN.mono hr.bel.size))
 have HSN := Lib.hid (show w0.heap.size ≤ w1.heap.size from hr.bel.size)
 have HG0 := Lib.hid (show GT wN w0.heap.size w1.heap.size X1.cells X1 wN from gt_of_rg hr (Nat.le_refl _) (by rw [hwN, hX1]; rfl))
 have HKB := Lib.hid (show ∀ W bx X, GT wN w0.heap.size w1.heap.size bx X W → Below w0.heap.size w0 W from fun W bx X h => below_kept HBN.out h.k (fun q hq => by have := HSN.out; rcases hq with hq | hq <;> omega) HBN.out.size)
 have HWN := Lib.hid hwN
 clear hr hX1 hbN hwN
 go_wp2_with (rw [← HWN.out])
 refine wp_region_fill (by kernel_rfl) [some 19, some 20, some 21, some 22, none, some 23, none] (fun q v => match q with | 0 => v = .int .i64 edges | 1 => v = .slice Ao outer.length co | 2 => ∃ Aq cq, v = .slice Aq (sortS outer).length cq | 3 => v = .pointer (some ⟨w1.heap.size, 3, none⟩) | 4 => True | 5 => v = .pointer (some ⟨w1.heap.size, 4, none⟩) | 6 => True | _ => True) (fun L V W => RL wN w0.heap.size w1.heap.size X1 edges (sortS outer) (L 2) (L 4) (L 6) (V 2) W) (by kernel_rfl) (by kernel_rfl) ?h10 ?s1t ?f1i
 case h10 => exact fun V => RL.start HG0.out HBN.out.size (V 2)
 case s1t =>
  as_aux_lemma =>
   intro L V act W q oo hJ hC hL ho hd K3 hK3
   match q, ho with
   | 0, ho =>
    cases ho
    have a5 : act.tmps[5]? = some _ := hJ.outN 5 (by decide)
    have hF := hJ.f
    clear hd
    have n6 : L 6 = false := dc_no hC hL (by kernel_rfl)
    rw [n6] at hF
    have xe := HXE.out W (HKB.out W _ _ (hF.g rfl))
    have e0 : World.cell? W ⟨w.heap.size + 1, 0, none⟩ = some (.int .i64 edges) := cell_of_row _ _ 0 _ _ _ xe
    have HF := Lib.hid hF
    clear hJ hC hF xe
    go_simp
    exact hK3 _ _ rfl (by simpa [upd, updV, n6] using HF.out)
   | 1, ho =>
    cases ho
    have a2 : act.tmps[2]? = some _ := hJ.outN 2 (by decide)
    have hF := hJ.f
    have HF := Lib.hid hF
    clear hJ hC hd hF
    go_simp
    exact hK3 _ _ rfl HF.out
   | 2, ho =>
    cases ho
    simp [Region.binds] at hd
    have v1 := hJ.val (by simp [hd] : L 1 = true) rfl fun _ h => h
    have hF := hJ.f
    clear hd
    have n4 : L 4 = false := dc_no hC hL (by kernel_rfl)
    have n6 : L 6 = false := dc_no hC hL (by kernel_rfl)
    rw [hL, n4, n6] at hF
    have hA2 := HA.out W (HB0.out.trans ((HKB.out W _ _ (hF.g rfl)).mono HB0.out.size))
    have HF := Lib.hid hF
    have HA2 := Lib.hid hA2
    clear hJ hC hF hA2
    go_simp
    go_at_call 120
    refine (sortedNames_any Ao co outer W (by omega) HA2.out).mono ?_
    rintro e W' ⟨u, rfl, hu, hb⟩
    obtain ⟨Au, cu, rfl, hu⟩ := owns_form hu
    have HTW := Lib.hid (HF.out.two hb hu)
    go_simp
    exact hK3 _ _ ⟨_, _, rfl⟩ (by simpa [upd, updV, n4, n6] using HTW.out)
   | 3, ho | 5, ho =>
    cases ho
    have a9 : act.tmps[9]? = some _ := hJ.outN 9 (by decide)
    have hF := hJ.f
    have HF := Lib.hid hF
    clear hJ hC hd hF
    go_simp
    exact hK3 _ _ rfl HF.out
   | 4, ho =>
    cases ho
    simp [Region.binds] at hd
    have v3 := hJ.val (by simp [hd] : L 3 = true) rfl fun _ h => h
    have v0 := hJ.val (by simp [hd] : L 0 = true) rfl fun _ h => h
    have hF := hJ.f
    have n6 : L 6 = false := dc_no hC hL (by kernel_rfl)
    have l2 : L 2 = true := by simp [hd]
    clear hd
    rw [l2, hL, n6] at hF
    have z3 := (hF.g rfl).cell (f := 3) (u := .int .i64 g.edges) (by rw [HX1.out]; rfl)
    have f3 := frozen_of_row W w1.heap.size 3 _ _ (hF.g rfl).box
    have HF := Lib.hid hF.four
    clear hJ hC hF
    go_simp
    exact hK3 undef _ trivial (by simpa [upd, updV, l2, n6] using HF.out)
   | 6, ho =>
    cases ho
    simp [Region.binds] at hd
    have l5 : L 5 = true := by simp [hd]
    have v5 := hJ.val l5 rfl fun _ h => h
    have l2 : L 2 = true := by simp [hd]
    have v2 := hJ.has 2 21 l2 rfl
    obtain ⟨Aq, cq, e2⟩ := (hJ.s 2 l2 : ∃ Aq cq, V 2 = .slice Aq (sortS outer).length cq)
    rw [e2] at v2
    have hF := hJ.f
    have l4 : L 4 = true := by simp [hd]
    clear hd
    rw [l2, l4, hL, e2] at hF
    have z4 := (hF.g rfl).cell (f := 4) (u := .slice AO2 g.outer.length cO2) (by rw [HX1.out]; rfl)
    have f4 := frozen_of_row W w1.heap.size 4 _ _ (hF.g rfl).box
    have HF := Lib.hid hF.six
    clear hJ hC hF
    go_simp
    exact hK3 undef _ trivial (by simpa [upd, updV, l2, l4, e2] using HF.out)
   | q + 7, ho => simp at ho
 intro L V W hL hV hF
 have l0 := hL 0 (by decide)
 have l1 := hL 1 (by decide)
 have l2 := hL 2 (by decide)
 have l3 := hL 3 (by decide)
 have l4 := hL 4 (by decide)
 have l5 := hL 5 (by decide)
 have l6 := hL 6 (by decide)
 clear hL
 have v0 : V 0 = _ := hV 0 (by decide)
 have v1 : V 1 = _ := hV 1 (by decide)
 obtain ⟨Aq2, cq2, v2⟩ : ∃ Aq cq, V 2 = .slice Aq (sortS outer).length cq := hV 2 (by decide)
 have v3 : V 3 = _ := hV 3 (by decide)
 have v5 : V 5 = _ := hV 5 (by decide)
 clear hV
 rw [l2, l4, l6, v2] at hF
 have hG := hF.e rfl
 clear hF l0 l1 l2 l3 l4 l5 l6
 simp only [layV, List.setIfInBounds_toArray, List.set_cons_zero, List.set_cons_succ, v0, v1, v2, v3, v5]
 clear v0 v1 v2 v3 v5
 obtain ⟨outs, hot⟩ : ∃ outs, outs = sortS outer := ⟨_, rfl⟩
 rw [← hot] at hG
 have HOT := Lib.hid hot
 rw [← hot]
 obtain ⟨XR, hXR⟩ : ∃ XR, XR = (⟨g.roots, edges, .slice AN2 g.nodes.length cN2, .slice AS2 g.sites.length cS2, .slice Aq2 outs.length cq2, .slice AI2 g.inner.length cI2, g.nodes, xls, g.sites, outs, g.inner⟩ : BX) := ⟨_, rfl⟩
 replace hG : GT wN w0.heap.size w1.heap.size XR.cells XR W := by rw [hXR]; rw [HX1.out] at hG; exact hG
 have HCE := Lib.hid (show XR.cells = #[.int .i64 g.roots, .slice AN2 g.nodes.length cN2, .slice AS2 g.sites.length cS2, .int .i64 edges, .slice Aq2 outs.length cq2, .slice AI2 g.inner.length cI2] from by rw [hXR]; rfl)
 have HNV := Lib.hid (show XR.nv = .slice AN2 g.nodes.length cN2 from by rw [hXR])
 have HIV := Lib.hid (show XR.iv = .slice AI2 XR.is.length cI2 from by rw [hXR])
 have HNS := Lib.hid (show XR.ns = g.nodes from by rw [hXR])
 have HIS := Lib.hid (show XR.is = g.inner from by rw [hXR])
 have HXR := Lib.hid hXR
 have HG1 := Lib.hid hG
 clear hG hXR hot HG0 HX1
 have hol2 : outs.length ≤ outer.length := by rw [HOT.out]; exact sortS_len outer
 obtain ⟨TF, hTF⟩ : ∃ TF, TF = turnF g edges outs turn := ⟨_, rfl⟩
 have HTF := Lib.hid hTF
 clear hTF
 have HLKH := Lib.hid (show ∀ W X, GT wN w0.heap.size w1.heap.size XR.cells X W → X.os = outs → X.ov = .slice Aq2 outs.length cq2 → LkH W g (.slice AN g.nodes.length cN) (.slice AS g.sites.length cS) (.slice AO g.outer.length cO) (.slice AI g.inner.length cI) (w.heap.size + 1 + 1) w.heap.size (w.heap.size + 1) w1.heap.size F cap edges outs Aq2 cq2 from fun W X h ho hv => by
  have hb := HKB.out W _ _ h
  have ho2 := h.ob.O
  rw [ho, hv] at ho2
  exact ⟨cell_of_row _ _ 0 _ _ _ (HXF.out W hb), HX.out W hb, HG.out W (HB0.out.trans (hb.mono HB0.out.size)), cell_of_row _ _ 0 _ _ _ (HXE.out W hb), h.cell (f := 4) (by rw [HCE.out]; rfl), Cells.of_owns ho2⟩)
 have HLF := Lib.hid (show ∀ l W, LinkP g l → LkH W g (.slice AN g.nodes.length cN) (.slice AS g.sites.length cS) (.slice AO g.outer.length cO) (.slice AI g.inner.length cI) (w.heap.size + 1 + 1) w.heap.size (w.heap.size + 1) w1.heap.size F cap edges outs Aq2 cq2 → Below w.heap.size w W → Calls Tryz.prog 253 #[.int .i64 l, .pointer (some ⟨w.heap.size + 1 + 1, 0, none⟩), .pointer (some ⟨w.heap.size, 0, none⟩), .pointer (some ⟨w.heap.size + 1, 0, none⟩), .pointer (some ⟨w1.heap.size, 0, none⟩)] W (fun r W' => r = .returned (.int .i64 (TF l)) ∧ Below W.heap.size W W') from fun l W hl h hb => by
  have hc := relinked1_any g _ _ _ _ _ _ _ _ F cap edges outs _ _ turn l W HSM.out hl HED.out (by omega) h hF (fun W2 hb2 => HCALL.out l W2 hl (hb.trans (hb2.mono hb.size)))
  rw [HTF.out]
  exact hc)
 have hFL := fun (args : Array Value) (w : World) => enter_of (P := Tryz.prog) (F := 253) (fn := Tryz.f253) (by kernel_rfl) (by kernel_rfl) (by kernel_rfl) args w
 have y1 := HG1.out.cell (f := 1) (u := .slice AN2 g.nodes.length cN2) (by rw [HCE.out]; rfl)
 have HGT0 := Lib.hid (show GT wN w0.heap.size w1.heap.size XR.cells (XR.turn TF 0 0) W from by have h := HG1.out; unfold BX.turn; rw [turnL_zero]; exact h)
 clear HG1
 go_wp2_with fail
 clear y1
 go_loopw [28] (fun i wr => ∃ k : Nat, k ≤ g.nodes.length ∧ i = .int .i64 k ∧ GT wN w0.heap.size w1.heap.size XR.cells (XR.turn TF k 0) wr)
  (fun i _ => g.nodes.length - (intOf i).toNat)
 case atStart => exact ⟨0, Nat.zero_le _, rfl, HGT0.out⟩
 obtain ⟨k, hk, rfl, hG⟩ := hrel
 clear HGT0
 by_cases hlt : k < g.nodes.length
 ·obtain ⟨x, hx⟩ : ∃ x, g.nodes[k] = x := ⟨_, rfl⟩
  have hxm : x ∈ g.nodes := by rw [← hx]; exact List.getElem_mem hlt
  have hxn : XR.ns[k]? = some x := by rw [HNS.out, List.getElem?_eq_getElem hlt, hx]
  obtain ⟨ct, pa, lk⟩ := x
  obtain ⟨gn, cc, AL, cL, e1, hls, c0, c1, c2, ho⟩ := hG.trow hxn
  have e2 := HNV.out.symm.trans e1
  rw [HNS.out] at e2
  cases e2
  have hll : lk.length ≤ 1000 := HLL.out _ hxm
  replace c0 : World.cell? wr ⟨gn, k * 3, none⟩ = some (.int .i64 ct) := c0
  replace c1 : World.cell? wr ⟨gn, k * 3 + 1, none⟩ = some (.int .i64 pa) := c1
  replace c2 : World.cell? wr ⟨gn, k * 3 + 2, none⟩ = some (.slice AL lk.length cL) := c2
  replace hls : XR.ls[k]? = some (.slice AL lk.length cL) := hls
  have HLP := Lib.hid (show ∀ l ∈ lk, LinkP g l from HLK.out.1 _ hxm)
  have HXN := Lib.hid hxn
  have HLS := Lib.hid hls
  have b0 : (0 : Int) ≤ (k : Int) := by omega
  have b1 : (k : Int) < (g.nodes.length : Int) := by omega
  obtain ⟨wo, hwo⟩ : ∃ wo, wo = wr := ⟨_, rfl⟩
  subst hwo
  obtain ⟨wn, hwn, hbn, -, hnn⟩ := laid1 wo (.cells #[.int .i64 ct, .int .i64 pa, .slice AL lk.length cL] 88)
  have HGN := Lib.hid (hG.lay hbn)
  have HNN := Lib.hid hnn
  have HWN2 := Lib.hid hwn
  have n2 := cell_of_row _ _ 2 _ _ _ hnn
  clear ho hG hxm hxn hls hx hnn hbn e1
  rw [hwn] at n2
  clear hwn
  go_wp2_with fail
  rw [← HWN2.out]
  clear n2 c0 c1 c2
  go_loopw [35] (fun i wr => ∃ iq : Nat, iq ≤ lk.length ∧ i = .int .i64 iq ∧ GT wN w0.heap.size w1.heap.size XR.cells (XR.turn TF k iq) wr ∧ wr.heap[wo.heap.size]? = some (.cells #[.int .i64 ct, .int .i64 pa, .slice AL lk.length cL] 88))
   (fun i _ => lk.length - (intOf i).toNat)
  case atStart => exact ⟨0, Nat.zero_le _, rfl, HGN.out, HNN.out⟩
  obtain ⟨iq, hq, rfl, hG, hnn⟩ := hrel
  clear HGN HNN
  by_cases hlq : iq < lk.length
  ·have ho := hG.tlnk (x := (ct, pa, lk)) HXN.out HLS.out
   replace ho : wr.ownsRow w0.heap.size 3 1 (.slice AL lk.length cL) lk.length (ints (mixT TF lk iq)) := ho
   obtain ⟨gl, cl, eL, hcl⟩ := own_ptr ho (by omega)
   cases eL
   obtain ⟨y, hy⟩ : ∃ y, y = lk.getD iq 0 := ⟨_, rfl⟩
   have hyl : LinkP g y := HLP.out y (by rw [hy]; simp [List.getD, hlq])
   have k0 : wr.cell? ⟨gl, iq, none⟩ = some (.int .i64 y) := by
    rw [ho.cellAt iq (by simpa using hlq)]
    have h := mixT_at (f := TF) hlq
    unfold ints
    rw [List.getElem?_map, h, hy]
    rfl
   have HNN := Lib.hid (show ∀ W, Below wr.heap.size wr W → W.heap[wo.heap.size]? = some (.cells #[.int .i64 ct, .int .i64 pa, .slice (some ⟨gl, 0, none⟩) lk.length cL] 88) from fun W hb => (hb.block _ (Array.getElem?_eq_some_iff.1 hnn).1).trans hnn)
   have HYE := Lib.hid hy
   have HGT := Lib.hid hG
   have HLW := Lib.hid (HLKH.out wr _ hG (by show XR.os = outs; rw [HXR.out]) (by show XR.ov = _; rw [HXR.out]))
   have HBW0 := Lib.hid (HB0.out.trans ((HKB.out wr _ _ hG).mono HB0.out.size))
   have HYL := Lib.hid hyl
   have HOR := Lib.hid ho
   have b2 : (0 : Int) ≤ (iq : Int) := by omega
   have b3 : (iq : Int) < (lk.length : Int) := by omega
   clear ho hnn hG hy hyl
   go_wp2_with fail
   refine wp_region_tail (by kernel_rfl) 7 _ rfl [some 40, some 41, some 42, some 43, some 44, some 45, some 46, none] (fun q v W => match q with | 0 => v = .pointer (some ⟨wo.heap.size, 2, none⟩) | 1 => v = .slice (some ⟨gl, 0, none⟩) lk.length cL | 2 => v = .int .i64 (iq : Int) | 3 => v = .func (.func 253) #[] #[.pointer (some ⟨w.heap.size + 1 + 1, 0, none⟩), .pointer (some ⟨w.heap.size, 0, none⟩), .pointer (some ⟨w.heap.size + 1, 0, none⟩), .pointer (some ⟨w1.heap.size, 0, none⟩)] | 4 => v = .int .i64 y | 5 => v = .int .i64 (TF y) | 6 => v = .pointer (some ⟨gl, iq, none⟩) | _ => True) (by kernel_rfl) (by kernel_rfl) (by kernel_rfl) rfl ?m2o ?s2t ?t2a
   case m2o =>
    intro q v W W' hb h
    match q, h with
    | 0, h | 1, h | 2, h | 3, h | 4, h | 5, h | 6, h => exact h
    | q + 7, _ => trivial
   case s2t =>
    as_aux_lemma =>
     intro L act W q oo hJ hqn ho hd K3 hK3
     match q, ho with
     | 0, ho =>
      cases ho
      have hbW := hJ.bel
      have a12 : act.tmps[12]? = some _ := hJ.out 12 (by decide)
      clear hJ hd
      go_simp
      exact hK3 _ _ (Below.refl _ _) rfl
     | 1, ho =>
      cases ho
      simp [Region.binds] at hd
      have hbW := hJ.bel
      have v0 := hJ.val (by simp [hd] : L 0 = true) rfl fun _ h => h
      clear hJ hd
      have bn := HNN.out W hbW
      have n2 : World.cell? W ⟨wo.heap.size, 2, none⟩ = some (.slice (some ⟨gl, 0, none⟩) lk.length cL) := cell_of_row _ _ 2 _ _ _ bn
      clear bn
      go_simp
      exact hK3 _ _ (Below.refl _ _) rfl
     | 2, ho =>
      cases ho
      have hbW := hJ.bel
      have a13 : act.tmps[13]? = some _ := hJ.out 13 (by decide)
      clear hJ hd
      go_simp
      exact hK3 _ _ (Below.refl _ _) rfl
     | 3, ho =>
      cases ho
      have hbW := hJ.bel
      have a10 : act.tmps[10]? = some _ := hJ.out 10 (by decide)
      clear hJ hd
      go_simp
      exact hK3 _ _ (Below.refl _ _) rfl
     | 4, ho =>
      cases ho
      have hbW := hJ.bel
      have a14 : act.tmps[14]? = some _ := hJ.out 14 (by decide)
      clear hJ hd
      go_simp
      exact hK3 _ _ (Below.refl _ _) rfl
     | 5, ho =>
      cases ho
      simp [Region.binds] at hd
      have hbW := hJ.bel
      have v3 := hJ.val (by simp [hd] : L 3 = true) rfl fun _ h => h
      have v4 := hJ.val (by simp [hd] : L 4 = true) rfl fun _ h => h
      clear hJ hd
      have HBW := Lib.hid hbW
      clear hbW
      go_simp
      refine (HLF.out y W HYL.out (HLW.out.below HBW.out) (HBW0.out.trans (HBW.out.mono HBW0.out.size))).mono ?_
      rintro e W' ⟨rfl, hb⟩
      go_simp
      exact hK3 _ _ hb rfl
     | 6, ho =>
      cases ho
      simp [Region.binds] at hd
      have hbW := hJ.bel
      have v1 := hJ.val (by simp [hd] : L 1 = true) rfl fun _ h => h
      have v2 := hJ.val (by simp [hd] : L 2 = true) rfl fun _ h => h
      clear hJ hd
      go_simp
      exact hK3 _ _ (Below.refl _ _) rfl
     | 7, _ => exact absurd rfl hqn
     | q + 8, ho => simp at ho
   intro V W hbW hV K3 hK3
   have v0 : V 0 = _ := hV 0 40 rfl
   have v1 : V 1 = _ := hV 1 41 rfl
   have v2 : V 2 = _ := hV 2 42 rfl
   have v3 : V 3 = _ := hV 3 43 rfl
   have v4 : V 4 = _ := hV 4 44 rfl
   have v5 : V 5 = _ := hV 5 45 rfl
   have v6 : V 6 = _ := hV 6 46 rfl
   clear hV
   have hro := owns_below HOR.out hbW (Nat.le_refl _)
   have k1 : (W.cell? ⟨gl, iq, none⟩).isSome = true := by rw [hro.cellAt iq (by simp [ints, mixT_len]; exact hlq), List.getElem?_eq_getElem (by simp [ints, mixT_len]; exact hlq)]; rfl
   obtain ⟨old, hold⟩ := Option.isSome_iff_exists.1 k1
   have f0 := hro.frozenAt iq
   have HBW := Lib.hid hbW
   have HGS := Lib.hid ((HGT.out.lay hbW).turnL (x := (ct, pa, lk)) HXN.out HLS.out hlq)
   have HNS2 := Lib.hid (show (W.setCell ⟨gl, iq, none⟩ (.int .i64 (TF y))).heap[wo.heap.size]? = some (.cells #[.int .i64 ct, .int .i64 pa, .slice (some ⟨gl, 0, none⟩) lk.length cL] 88) from (((Kept.refl (fun q => q = gl) W).setCell (p := ⟨gl, iq, none⟩) rfl (.int .i64 (TF y))).block _ (Array.getElem?_eq_some_iff.1 (HNN.out W hbW)).1 (fun e => ownsT hro (HNN.out W hbW) (by decide) (by rw [e]; rfl))).trans (HNN.out W hbW))
   clear hbW hro k1 k0
   simp only [layV, List.setIfInBounds_toArray, List.set_cons_zero, List.set_cons_succ, v0, v1, v2, v3, v4, v5, v6] at hK3 ⊢
   clear v0 v1 v2 v3 v4 v5 v6
   refine ⟨?_⟩
   go_simp
   refine hK3 _ ?_
   clear hK3 K3
   refine pull_world (T := fun W2 => GT wN w0.heap.size w1.heap.size XR.cells (XR.turn TF k (iq + 1)) W2 ∧ W2.heap[wo.heap.size]? = some (.cells #[.int .i64 ct, .int .i64 pa, .slice (some ⟨gl, 0, none⟩) lk.length cL] 88)) ⟨by have h := HGS.out; rw [show ((ct, pa, lk) : Nod).2.2.getD iq 0 = y from HYE.out.symm] at h; exact h, HNS2.out⟩ ?_
   rintro W2 ⟨hg2, hn2⟩
   have HG2 := Lib.hid hg2
   have HN2 := Lib.hid hn2
   clear hg2 hn2 HGS HNS2 hold f0
   go_wp2_with fail
   go_roundw
   case rel => exact ⟨iq + 1, by omega, by go_num, HG2.out, HN2.out⟩
   case measure => simp [intOf]; omega
  obtain rfl : lk.length = iq := by omega
  have HGE := Lib.hid (show GT wN w0.heap.size w1.heap.size XR.cells (XR.turn TF (k + 1) 0) wr from by have h := hG; unfold BX.turn at h ⊢; rw [turnL_row (x := (ct, pa, lk)) HXN.out] at h; exact h)
  clear hG hnn
  go_wp2_with fail
  go_roundw
  case rel => exact ⟨k + 1, by omega, by go_num, HGE.out⟩
  case measure => simp [intOf]; omega
 obtain rfl : g.nodes.length = k := by omega
 have y5 := hG.cell (f := 5) (u := .slice AI2 g.inner.length cI2) (by rw [HCE.out]; rfl)
 have HGI0 := Lib.hid (show GT wN w0.heap.size w1.heap.size XR.cells ((XR.turn TF g.nodes.length 0).turnI TF 0) wr from by have h := hG; unfold BX.turnI; rw [turnW_zero]; exact h)
 clear hG
 go_wp2_with fail
 clear y5
 obtain ⟨wq, hwq⟩ : ∃ wq, wq = wr := ⟨_, rfl⟩
 subst hwq
 go_loopw [52] (fun i wr => ∃ k : Nat, k ≤ g.inner.length ∧ i = .int .i64 k ∧ GT wN w0.heap.size w1.heap.size XR.cells ((XR.turn TF g.nodes.length 0).turnI TF k) wr)
  (fun i _ => g.inner.length - (intOf i).toNat)
 case atStart => exact ⟨0, Nat.zero_le _, rfl, HGI0.out⟩
 obtain ⟨k, hk, rfl, hG⟩ := hrel
 clear HGI0
 by_cases hlt : k < g.inner.length
 ·have ho := hG.tinn (X := XR.turn TF g.nodes.length 0) (A := AI2) (c := cI2) HIV.out
  replace ho : wr.ownsRow w0.heap.size 90 2 (.slice AI2 XR.is.length cI2) XR.is.length ((turnW TF XR.is k).flatMap encWi) := ho
  rw [HIS.out] at ho
  obtain ⟨gi, ci, eL, hcl⟩ := own_ptr ho (by omega)
  cases eL
  obtain ⟨s, l, hsl⟩ : ∃ s l, g.inner.getD k wi0 = (s, l) := ⟨_, _, rfl⟩
  have hwa := wis_at (turnW_at (f := TF) hlt)
  rw [hsl] at hwa
  have hxm : (s, l) ∈ g.inner := by rw [← hsl]; simp [List.getD, hlt]
  have hwl : ((turnW TF g.inner k).flatMap encWi).length = g.inner.length * 2 := by rw [gwis_len, turnW_len]
  have k0 : wr.cell? ⟨gi, k * 2, none⟩ = some (.string s) := by rw [ho.cellAt (k * 2) (by omega)]; exact hwa.1
  have k1 : wr.cell? ⟨gi, k * 2 + 1, none⟩ = some (.int .i64 l) := by rw [ho.cellAt (k * 2 + 1) (by omega)]; exact hwa.2
  have b0 : (0 : Int) ≤ (k : Int) := by omega
  have b1 : (k : Int) < (g.inner.length : Int) := by omega
  obtain ⟨wn, hwn, hbn, -, hnn⟩ := laid1 wr (.cells #[.string s, .int .i64 l] 90)
  have HNN := Lib.hid (show ∀ W, Below wn.heap.size wn W → W.heap[wr.heap.size]? = some (.cells #[.string s, .int .i64 l] 90) from fun W hb => (hb.block _ (Array.getElem?_eq_some_iff.1 hnn).1).trans hnn)
  have hgl := hG.lay hbn
  have HGT := Lib.hid hgl
  have HLW := Lib.hid (HLKH.out wn _ hgl (by show XR.os = outs; rw [HXR.out]) (by show XR.ov = _; rw [HXR.out]))
  have HBW0 := Lib.hid (HB0.out.trans ((HKB.out wn _ _ hgl).mono HB0.out.size))
  have HYL := Lib.hid (show LinkP g l from HLK.out.2 _ hxm)
  have HOR := Lib.hid (owns_below ho hbn (Nat.le_refl _))
  have HSL := Lib.hid hsl
  have HWN2 := Lib.hid hwn
  clear ho hnn hG hxm hsl hwa hgl hbn hwn
  go_wp2_with fail
  rw [← HWN2.out]
  refine wp_region_tail (by kernel_rfl) 9 _ rfl [some 57, some 58, some 59, some 60, some 61, some 62, some 63, some 64, some 65, none] (fun q v W => match q with | 0 => v = .pointer (some ⟨w1.heap.size, 5, none⟩) | 1 => v = .slice (some ⟨gi, 0, none⟩) g.inner.length cI2 | 2 => v = .int .i64 (k : Int) | 3 => v = .func (.func 253) #[] #[.pointer (some ⟨w.heap.size + 1 + 1, 0, none⟩), .pointer (some ⟨w.heap.size, 0, none⟩), .pointer (some ⟨w.heap.size + 1, 0, none⟩), .pointer (some ⟨w1.heap.size, 0, none⟩)] | 4 => v = .pointer (some ⟨wr.heap.size, 1, none⟩) | 5 => v = .int .i64 l | 6 => v = .int .i64 (TF l) | 7 => v = .pointer (some ⟨gi, k * 2, none⟩) | 8 => v = .pointer (some ⟨gi, k * 2 + 1, none⟩) | _ => True) (by kernel_rfl) (by kernel_rfl) (by kernel_rfl) rfl ?m3o ?s3t ?t3a
  case m3o =>
   intro q v W W' hb h
   match q, h with
   | 0, h | 1, h | 2, h | 3, h | 4, h | 5, h | 6, h | 7, h | 8, h => exact h
   | q + 9, _ => trivial
  case s3t =>
   as_aux_lemma =>
    intro L act W q oo hJ hqn ho hd K3 hK3
    match q, ho with
    | 0, ho =>
     cases ho
     have hbW := hJ.bel
     have a9 : act.tmps[9]? = some _ := hJ.out 9 (by decide)
     clear hJ hd
     go_simp
     exact hK3 _ _ (Below.refl _ _) rfl
    | 1, ho =>
     cases ho
     simp [Region.binds] at hd
     have hbW := hJ.bel
     have v0 := hJ.val (by simp [hd] : L 0 = true) rfl fun _ h => h
     clear hJ hd
     have y5 := (HGT.out.lay hbW).cell (f := 5) (u := .slice (some ⟨gi, 0, none⟩) g.inner.length cI2) (by rw [HCE.out]; rfl)
     go_simp
     exact hK3 _ _ (Below.refl _ _) rfl
    | 2, ho =>
     cases ho
     have hbW := hJ.bel
     have a15 : act.tmps[15]? = some _ := hJ.out 15 (by decide)
     clear hJ hd
     go_simp
     exact hK3 _ _ (Below.refl _ _) rfl
    | 3, ho =>
     cases ho
     have hbW := hJ.bel
     have a10 : act.tmps[10]? = some _ := hJ.out 10 (by decide)
     clear hJ hd
     go_simp
     exact hK3 _ _ (Below.refl _ _) rfl
    | 4, ho =>
     cases ho
     have hbW := hJ.bel
     have a16 : act.tmps[16]? = some _ := hJ.out 16 (by decide)
     clear hJ hd
     go_simp
     exact hK3 _ _ (Below.refl _ _) rfl
    | 5, ho =>
     cases ho
     simp [Region.binds] at hd
     have hbW := hJ.bel
     have v4 := hJ.val (by simp [hd] : L 4 = true) rfl fun _ h => h
     clear hJ hd
     have bn := HNN.out W hbW
     have n1 : World.cell? W ⟨wr.heap.size, 1, none⟩ = some (.int .i64 l) := cell_of_row _ _ 1 _ _ _ bn
     clear bn
     go_simp
     exact hK3 _ _ (Below.refl _ _) rfl
    | 6, ho =>
     cases ho
     simp [Region.binds] at hd
     have hbW := hJ.bel
     have v3 := hJ.val (by simp [hd] : L 3 = true) rfl fun _ h => h
     have v5 := hJ.val (by simp [hd] : L 5 = true) rfl fun _ h => h
     clear hJ hd
     have HBW := Lib.hid hbW
     clear hbW
     go_simp
     refine (HLF.out l W HYL.out (HLW.out.below HBW.out) (HBW0.out.trans (HBW.out.mono HBW0.out.size))).mono ?_
     rintro e W' ⟨rfl, hb⟩
     go_simp
     exact hK3 _ _ hb rfl
    | 7, ho =>
     cases ho
     simp [Region.binds] at hd
     have hbW := hJ.bel
     have v1 := hJ.val (by simp [hd] : L 1 = true) rfl fun _ h => h
     have v2 := hJ.val (by simp [hd] : L 2 = true) rfl fun _ h => h
     clear hJ hd
     go_simp
     exact hK3 _ _ (Below.refl _ _) rfl
    | 8, ho =>
     cases ho
     simp [Region.binds] at hd
     have hbW := hJ.bel
     have v7 := hJ.val (by simp [hd] : L 7 = true) rfl fun _ h => h
     clear hJ hd
     go_simp
     exact hK3 _ _ (Below.refl _ _) rfl
    | 9, _ => exact absurd rfl hqn
    | q + 10, ho => simp at ho
  intro V W hbW hV K3 hK3
  have v0 : V 0 = _ := hV 0 57 rfl
  have v1 : V 1 = _ := hV 1 58 rfl
  have v2 : V 2 = _ := hV 2 59 rfl
  have v3 : V 3 = _ := hV 3 60 rfl
  have v4 : V 4 = _ := hV 4 61 rfl
  have v5 : V 5 = _ := hV 5 62 rfl
  have v6 : V 6 = _ := hV 6 63 rfl
  have v7 : V 7 = _ := hV 7 64 rfl
  have v8 : V 8 = _ := hV 8 65 rfl
  clear hV
  have hro := owns_below HOR.out hbW (Nat.le_refl _)
  have k3 : (W.cell? ⟨gi, k * 2 + 1, none⟩).isSome = true := by rw [hro.cellAt (k * 2 + 1) (by omega), List.getElem?_eq_getElem (by omega)]; rfl
  obtain ⟨old, hold⟩ := Option.isSome_iff_exists.1 k3
  have f0 := hro.frozenAt (k * 2 + 1)
  have HBW := Lib.hid hbW
  have hel : ((XR.turn TF g.nodes.length 0).is.getD k wi0).2 = l := (show (XR.is.getD k wi0).2 = l from by rw [HIS.out, HSL.out])
  have hgs := (HGT.out.lay hbW).turnW (X := XR.turn TF g.nodes.length 0) (g := gi) (c := cI2) HIV.out (show k < XR.is.length by rw [HIS.out]; exact hlt)
  rw [hel] at hgs
  have HGS := Lib.hid hgs
  clear hgs hel
  clear hbW hro k3 k0 k1
  simp only [layV, List.setIfInBounds_toArray, List.set_cons_zero, List.set_cons_succ, v0, v1, v2, v3, v4, v5, v6, v7, v8] at hK3 ⊢
  clear v0 v1 v2 v3 v4 v5 v6 v7 v8
  refine ⟨?_⟩
  go_simp
  refine hK3 _ ?_
  clear hK3 K3
  refine pull_world (T := fun W2 => GT wN w0.heap.size w1.heap.size XR.cells ((XR.turn TF g.nodes.length 0).turnI TF (k + 1)) W2) HGS.out ?_
  intro W2 hg2
  have HG2 := Lib.hid hg2
  clear hg2 HGS hold f0
  go_wp2_with fail
  go_roundw
  case rel => exact ⟨k + 1, by omega, by go_num, HG2.out⟩
  case measure => simp [intOf]; omega
 obtain rfl : g.inner.length = k := by omega
 have hf0 : GT wN w0.heap.size w1.heap.size (BX.cells (⟨g.roots, edges, .slice AN2 g.nodes.length cN2, .slice AS2 g.sites.length cS2, .slice Aq2 outs.length cq2, .slice AI2 g.inner.length cI2, turnL TF g.nodes g.nodes.length 0, xls, g.sites, outs, turnW TF g.inner g.inner.length⟩ : BX)) (⟨g.roots, edges, .slice AN2 g.nodes.length cN2, .slice AS2 g.sites.length cS2, .slice Aq2 outs.length cq2, .slice AI2 g.inner.length cI2, turnL TF g.nodes g.nodes.length 0, xls, g.sites, outs, turnW TF g.inner g.inner.length⟩ : BX) wr := by
  have h := hG
  have hx := HXR.out
  subst hx
  exact h
 have HGF := Lib.hid hf0
 have hbz := HKB.out wr _ _ hG
 have HBZ := Lib.hid hbz
 have y0 := hf0.cell (f := 0) (u := .int .i64 g.roots) rfl
 have y1 := hf0.cell (f := 1) (u := .slice AN2 g.nodes.length cN2) rfl
 have y2 := hf0.cell (f := 2) (u := .slice AS2 g.sites.length cS2) rfl
 have y3 := hf0.cell (f := 3) (u := .int .i64 edges) rfl
 have y4 := hf0.cell (f := 4) (u := .slice Aq2 outs.length cq2) rfl
 have y5 := hf0.cell (f := 5) (u := .slice AI2 g.inner.length cI2) rfl
 clear hG hf0 hbz
 have hRW := HRR.out wr HBZ.out
 obtain ⟨z0, z1, z2, z3, z4, z5, f0, f1, f2, f3, f4, f5⟩ := row6f hRW
 clear hRW
 go_wp2_with fail
 have hsz0 := HS0.out
 have hf := fin6R (X := (⟨g.roots, edges, .slice AN2 g.nodes.length cN2, .slice AS2 g.sites.length cS2, .slice Aq2 outs.length cq2, .slice AI2 g.inner.length cI2, turnL TF g.nodes g.nodes.length 0, xls, g.sites, outs, turnW TF g.inner g.inner.length⟩ : BX)) (w.heap.size + 1 + 1 + 1) HB0.out (by omega) HR0.out ((Kept.of_below HBN.out (fun q => w.heap.size + 1 + 1 + 1 + 1 ≤ q)).trans (HGF.out.k.mono fun q hq => by have := HSN.out; rcases hq with hq | hq <;> omega)) (HGF.out.ob.mono (by omega))
 (try simp only [Exit.inBlock, Exit.then])
 refine bodyPost_ret (results_cell_row rfl _ _ (w.heap.size + 1 + 1 + 1) _ _ _ _ rfl hf.1 Tryz.underlying31 rfl (by kernel_rfl)) rfl ?_
 exact ⟨_, rfl, by rw [relinkG_eq, ← HOT.out, ← HTF.out]; show (⟨_, turnL TF g.nodes g.nodes.length 0, _, _, _, turnW TF g.inner g.inner.length⟩ : Gr) = _; rw [turnL_all, turnW_all], hf.2⟩

end Go.Proofs.YtijkdpdmclkmlaaGreatDoor
