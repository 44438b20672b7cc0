/- Bigraphs that are built: what a builder gives back, and its end. What stays while calls lay new memory; what a builder gives back, taken apart. -/
import Derived.Test.YtijkdpdmclkmlaaGreatDoorProg
import Derived.Test.YtijkdpdmclkmlaaGreatDoorJ20
import Derived.Test.YtijkdpdmclkmlaaGreatDoorJ8
import Derived.Test.YtijkdpdmclkmlaaGreatDoorJ0
set_option linter.unusedSimpArgs false
set_option linter.unusedVariables false
set_option maxRecDepth 100000
set_option maxHeartbeats 16000000
namespace Go.Proofs.YtijkdpdmclkmlaaGreatDoor
open Go.RowKit
/-- A bigraph in rows of its own, laid by the call. -/
structure RG (w w' : World) (X : BX) : Prop where
  ob : OB w' w.heap.size X
  bel : Below w.heap.size w w'
  cap : True
theorem RG.rgr {w w' W : World} {X : BX} (h : RG w w' X) (hb : Below w'.heap.size w' W) (hs : SmallG X.g) : RGr W X.nv X.sv X.ov X.iv X.g := (h.ob.below hb).rgr hs

theorem rcell2 {P : Program} {fn : Func} {p q : Tmp} {ty : TypeId} (h : fn.results = #[.cell p ty, .tmp q]) (tmps : Array Value) (w : World) (g : Nat) (t : TypeId) (cs : Array Value) (fr : Nat × Nat) (d : TypeDesc)
    (hp : tmps.getD p undef = .pointer (some ⟨g, 0, none⟩)) (hg : w.heap[g]? = some (.cells cs t fr))
    (hu : P.underlying ty = some d) (hd : (match d with | .struct _ | .array _ _ => true | _ => false) = true) (hi : (P.info? ty).map (·.size) = some cs.size) :
    (results fn tmps).run P w = .ok (.tuple #[.agg cs, tmps.getD q undef]) w := by
  have hp' : tmps[p]?.getD undef = .pointer (some ⟨g, 0, none⟩) := by simpa using hp
  simp [results, h, hp', asAddr, run_loadVar_row w g t ty cs fr d hg hu hd hi]

section
variable {w w0 W : World} {P : Nat} {bx : Array Value} {X : BX}
theorem fin6_of (h0 : Below w.heap.size w w0) (hR : w0.heap[w.heap.size]? = some (.cells ZB 31)) (hs : w.heap.size < W.heap.size) (hk : Kept (fun q => w.heap.size + 1 ≤ q) w0 W) (hob : OB W (w.heap.size + 1) X) :
    ((((((W.setCell ⟨w.heap.size, 0, none⟩ (.int .i64 X.r)).setCell ⟨w.heap.size, 1, none⟩ X.nv).setCell ⟨w.heap.size, 2, none⟩ X.sv).setCell ⟨w.heap.size, 3, none⟩ (.int .i64 X.e)).setCell ⟨w.heap.size, 4, none⟩ X.ov).setCell ⟨w.heap.size, 5, none⟩ X.iv).heap[w.heap.size]? = some (.cells X.cells 31) ∧
    RG w ((((((W.setCell ⟨w.heap.size, 0, none⟩ (.int .i64 X.r)).setCell ⟨w.heap.size, 1, none⟩ X.nv).setCell ⟨w.heap.size, 2, none⟩ X.sv).setCell ⟨w.heap.size, 3, none⟩ (.int .i64 X.e)).setCell ⟨w.heap.size, 4, none⟩ X.ov).setCell ⟨w.heap.size, 5, none⟩ X.iv) X := by
  have hl := (Array.getElem?_eq_some_iff.1 hR).1
  have hR2 := (hk.block w.heap.size hl (by omega)).trans hR
  have e0 := heap_setCell_same W w.heap.size 0 _ _ (.int .i64 X.r) hR2
  have e1 := heap_setCell_same _ w.heap.size 1 _ _ X.nv e0
  have e2 := heap_setCell_same _ w.heap.size 2 _ _ X.sv e1
  have e3 := heap_setCell_same _ w.heap.size 3 _ _ (.int .i64 X.e) e2
  have e4 := heap_setCell_same _ w.heap.size 4 _ _ X.ov e3
  have e5 := heap_setCell_same _ w.heap.size 5 _ _ X.iv e4
  have hKF := (((((((Kept.refl (fun q => q = w.heap.size) W).setCell (p := ⟨w.heap.size, 0, none⟩) rfl (.int .i64 X.r)).setCell (p := ⟨w.heap.size, 1, none⟩) rfl X.nv).setCell (p := ⟨w.heap.size, 2, none⟩) rfl X.sv).setCell (p := ⟨w.heap.size, 3, none⟩) rfl (.int .i64 X.e)).setCell (p := ⟨w.heap.size, 4, none⟩) rfl X.ov).setCell (p := ⟨w.heap.size, 5, none⟩) rfl X.iv)
  refine ⟨e5, (hob.kept hKF (fun q hq => by omega)).mono (by omega), ?_, trivial⟩
  have k4 := ((Kept.of_below h0 (fun q => w.heap.size ≤ q)).trans (hk.mono fun q hq => by omega)).trans (hKF.mono fun q hq => by omega)
  exact ⟨k4.os, k4.tape, k4.output, k4.size, fun q hq => k4.block q hq (by omega)⟩
/-- The bigraph of the box P is handed back by way of the result's box. -/
theorem fin6 (h0 : Below w.heap.size w w0) (hR : w0.heap[w.heap.size]? = some (.cells ZB 31)) (hP : w.heap.size < P) (h : GT w0 (w.heap.size + 1) P bx X W) :
    ((((((W.setCell ⟨w.heap.size, 0, none⟩ (.int .i64 X.r)).setCell ⟨w.heap.size, 1, none⟩ X.nv).setCell ⟨w.heap.size, 2, none⟩ X.sv).setCell ⟨w.heap.size, 3, none⟩ (.int .i64 X.e)).setCell ⟨w.heap.size, 4, none⟩ X.ov).setCell ⟨w.heap.size, 5, none⟩ X.iv).heap[w.heap.size]? = some (.cells X.cells 31) ∧
    RG w ((((((W.setCell ⟨w.heap.size, 0, none⟩ (.int .i64 X.r)).setCell ⟨w.heap.size, 1, none⟩ X.nv).setCell ⟨w.heap.size, 2, none⟩ X.sv).setCell ⟨w.heap.size, 3, none⟩ (.int .i64 X.e)).setCell ⟨w.heap.size, 4, none⟩ X.ov).setCell ⟨w.heap.size, 5, none⟩ X.iv) X :=
  fin6_of h0 hR (by have := (Array.getElem?_eq_some_iff.1 hR).1; have := h.k.size; omega) (h.k.mono fun q hq => by omega) h.ob
end

theorem gt_below {w w0 W : World} {P : Nat} {bx : Array Value} {X : BX} (h : GT w0 (w.heap.size + 1) P bx X W) (h0 : Below w.heap.size w w0) (hP : w.heap.size < P) : Below w.heap.size w W := by
  have k4 := (Kept.of_below h0 (fun q => w.heap.size ≤ q)).trans (h.k.mono fun q hq => by omega)
  exact ⟨k4.os, k4.tape, k4.output, k4.size, fun q hq => k4.block q hq (by omega)⟩
abbrev nilV : Value := .slice none 0 0
/-- Without nodes and edges. -/
def bI (r : Int) (ov : Value) (os : List ByteArray) (sv : Value) (ss : List Int) (iv : Value) (is : List Wi) : BX := ⟨r, 0, nilV, sv, ov, iv, [], [], ss, os, is⟩
theorem rm_succ {α : Type} (f : Nat → α) (k : Nat) : (List.range (k + 1)).map f = (List.range k).map f ++ [f k] := by rw [List.range_succ, List.map_append]; rfl
theorem map_getD {α β : Type} (d : α) (f : α → β) (l : List α) : l.map f = (List.range l.length).map fun i => f (l.getD i d) := by
  apply List.ext_getElem
  · simp
  intro i h1 h2
  simp only [List.getElem_map, List.getElem_range]
  rw [getD_some (List.getElem?_eq_getElem (by simpa using h1))]
theorem bI_I {w0 W : World} {B P : Nat} {bx : Array Value} {r : Int} {ov sv iv : Value} {os : List ByteArray} {ss : List Int} {f : Nat → Wi} {k : Nat} (h : GT w0 B P bx (bI r ov os sv ss iv ((List.range k).map f)) W) : W.ownsRow B 90 2 iv k (((List.range k).map f).flatMap encWi) := by
  have := h.ob.I
  rw [show (bI r ov os sv ss iv ((List.range k).map f)).is.length = k from by simp [bI]] at this
  exact this
theorem GT.addI {w0 W W' : World} {B P : Nat} {bx : Array Value} {r : Int} {ov sv iv v : Value} {os : List ByteArray} {ss : List Int} {f : Nat → Wi} {k : Nat} (h : GT w0 B P bx (bI r ov os sv ss iv ((List.range k).map f)) W) (ho : W'.ownsRow B 90 2 v (k + 1) (((List.range k).map f).flatMap encWi ++ [.string (f k).1, .int .i64 (f k).2])) (hk : Kept (fun q => iv.ownBlock = some q) W W') : GT w0 B P bx (bI r ov os sv ss v ((List.range (k + 1)).map f)) W' := by
  have := h.appI (x := f k) (v := v) (by rw [show (bI r ov os sv ss iv ((List.range k).map f)).is.length = k from by simp [bI]]; exact ho) hk
  rw [rm_succ]
  exact this
theorem el_wireG : El Tryz.prog 29 90 2 24 := El.mk' Tryz.underlying29 (by kernel_rfl : _ = some (some (.agg #[.string ⟨#[]⟩, .int .i64 0]), 2, 24)) rfl (by decide)
theorem wi_one (s : ByteArray) (l : Int) : ∀ u ∈ ([.string s, .int .i64 l] : List Value), u.oneCell' = true := by
  intro u hu
  simp at hu
  rcases hu with rfl | rfl <;> rfl

/-- The same where the result's box is another one. -/
theorem fin6R {w w0 W : World} {X : BX} (R : Nat) (h0 : Below w.heap.size w w0) (hw : w.heap.size ≤ R) (hR : w0.heap[R]? = some (.cells ZB 31)) (hk : Kept (fun q => R + 1 ≤ q) w0 W) (hob : OB W (R + 1) X) :
    ((((((W.setCell ⟨R, 0, none⟩ (.int .i64 X.r)).setCell ⟨R, 1, none⟩ X.nv).setCell ⟨R, 2, none⟩ X.sv).setCell ⟨R, 3, none⟩ (.int .i64 X.e)).setCell ⟨R, 4, none⟩ X.ov).setCell ⟨R, 5, none⟩ X.iv).heap[R]? = some (.cells X.cells 31) ∧
    RG w ((((((W.setCell ⟨R, 0, none⟩ (.int .i64 X.r)).setCell ⟨R, 1, none⟩ X.nv).setCell ⟨R, 2, none⟩ X.sv).setCell ⟨R, 3, none⟩ (.int .i64 X.e)).setCell ⟨R, 4, none⟩ X.ov).setCell ⟨R, 5, none⟩ X.iv) X := by
  have hl := (Array.getElem?_eq_some_iff.1 hR).1
  have hR2 := (hk.block R hl (by omega)).trans hR
  have e0 := heap_setCell_same W R 0 _ _ (.int .i64 X.r) hR2
  have e1 := heap_setCell_same _ R 1 _ _ X.nv e0
  have e2 := heap_setCell_same _ R 2 _ _ X.sv e1
  have e3 := heap_setCell_same _ R 3 _ _ (.int .i64 X.e) e2
  have e4 := heap_setCell_same _ R 4 _ _ X.ov e3
  have e5 := heap_setCell_same _ R 5 _ _ X.iv e4
  have hKF := (((((((Kept.refl (fun q => q = R) W).setCell (p := ⟨R, 0, none⟩) rfl (.int .i64 X.r)).setCell (p := ⟨R, 1, none⟩) rfl X.nv).setCell (p := ⟨R, 2, none⟩) rfl X.sv).setCell (p := ⟨R, 3, none⟩) rfl (.int .i64 X.e)).setCell (p := ⟨R, 4, none⟩) rfl X.ov).setCell (p := ⟨R, 5, none⟩) rfl X.iv)
  refine ⟨e5, (hob.kept hKF (fun q hq => by omega)).mono (by omega), ?_, trivial⟩
  have k4 := ((Kept.of_below h0 (fun q => w.heap.size ≤ q)).trans (hk.mono fun q hq => by omega)).trans (hKF.mono fun q hq => by omega)
  exact ⟨k4.os, k4.tape, k4.output, k4.size, fun q hq => k4.block q hq (by omega)⟩
theorem ion_of {X : BX} {c : Int} {n o : List ByteArray} {v : Value} (h : X.g = atomG c n o) : BX.g { X with sv := v, ss := [0] } = ionG c n o := by
  unfold BX.g atomG at h
  injection h with h1 h2 h3 h4 h5 h6
  unfold BX.g ionG
  simp only [h1, h2, h4, h5, h6]
def zeroG : Gr := ⟨0, [], [], 0, [], []⟩
def zeroX : BX := ⟨0, 0, nilV, nilV, nilV, nilV, [], [], [], [], []⟩
theorem zero_ob (W : World) (B : Nat) : OB W B zeroX := ob_none W B 0 0
/-- The sites' row is a new literal list. -/
theorem GT.newS {w0 W : World} {B P : Nat} {bx : Array Value} {X : BX} (h : GT w0 B P bx X W) (l : List Int) (hl : l.length ≤ 1000000) (hB : B ≤ W.heap.size) : GT w0 B P bx { X with sv := .slice (some ⟨W.heap.size, 0, none⟩) l.length l.length, ss := l } (W.alloc (.cells (ints l).toArray 3)) := by
  have hb := (Below.refl W.heap.size W).alloc (Nat.le_refl _) (.cells (ints l).toArray 3)
  have h2 := h.lay hb
  refine { h2 with ob := { N := { h2.ob.N with sep := fun i l' b hl' hb' e => ?_ }, S := ?_, O := h2.ob.O, I := h2.ob.I } }
  · obtain ⟨y, _, hy⟩ := h.ob.N.lkown hl'
    have := (hy.lt b hb').2
    simp [Value.ownBlock] at e
    omega
  exact owns_mono (ownsNew W (ints l) 3 1 l.length (by simp [ints]) (by unfold maxLen; omega)) hB
/-- A bigraph that a call has built lies in a new box. -/
theorem gt_of_rg {w w1 wN : World} {B : Nat} {X : BX} (hr : RG w w1 X) (hB : B ≤ w.heap.size) (hw : wN = w1.alloc (.cells X.cells 31)) : GT wN B w1.heap.size X.cells X wN := by
  have hb : Below w1.heap.size w1 wN := by rw [hw]; exact (Below.refl _ _).alloc (Nat.le_refl _) _
  exact { k := Kept.refl _ _, box := by rw [hw]; exact heap_alloc_new _ _, ob := (hr.ob.below hb).mono hB }

/-- What holds as long as nothing that is there at v turns. -/
def Stay (F : World → Prop) (v : World) : Prop := ∀ W, Below v.heap.size v W → F W
section
variable {F G : World → Prop} {v v' w : World}
theorem Stay.mono (h : Stay F v) (hb : Below v.heap.size v v') : Stay F v' := fun W hW => h W (hb.trans (hW.mono hb.size))
theorem Stay.now (h : Stay F v) : F v := h v (Below.refl _ _)
theorem Stay.and (h : Stay F v) (g : Stay G v) : Stay (fun W => F W ∧ G W) v := fun W hW => ⟨h W hW, g W hW⟩
theorem stay_gr {nv sv ov iv : Value} {g : Gr} (h : RGr v nv sv ov iv g) : Stay (fun W => RGr W nv sv ov iv g) v := fun W hb => h.below hb
theorem stay_sig {gv : Value} {sig : List Ct} (h : RSl RCt 3 v gv sig) : Stay (fun W => RSl RCt 3 W gv sig) v := fun W hb => h.below RCt_keep hb
theorem stay_cells {A : Option Addr} {cs : List Value} (h : Cells v A cs) : Stay (fun W => Cells W A cs) v := fun W hb => h.below hb
theorem stay_box {k : Nat} {o : Obj} (h : v.heap[k]? = some o) : Stay (fun W => W.heap[k]? = some o) v := keepB h
theorem stay_bel (h : Below w.heap.size w v) : Stay (fun W => Below w.heap.size w W) v := fun W hb => h.trans (hb.mono h.size)
end

/-- A struct value of six fields, its rows as slices. -/
theorem OB.open {W : World} {B : Nat} {X : BX} (h : OB W B X) : ∃ r e ns ls ss os is AN cN AS cS AO cO AI cI, X = ⟨r, e, .slice AN ns.length cN, .slice AS ss.length cS, .slice AO os.length cO, .slice AI is.length cI, ns, ls, ss, os, is⟩ := by
  obtain ⟨AN, cN, AS, cS, AO, cO, AI, cI, e1, e2, e3, e4⟩ := h.form
  obtain ⟨r, e, nv, sv, ov, iv, ns, ls, ss, os, is⟩ := X
  dsimp only at e1 e2 e3 e4
  subst e1 e2 e3 e4
  exact ⟨r, e, ns, ls, ss, os, is, AN, cN, AS, cS, AO, cO, AI, cI, rfl⟩
theorem rg_parts {w w' : World} {X : BX} {g : Gr} (h : RG w w' X) (hg : X.g = g) (hs : SmallG g) : ∃ AN cN AS cS AO cO AI cI, X.cells = #[.int .i64 g.roots, .slice AN g.nodes.length cN, .slice AS g.sites.length cS, .int .i64 g.edges, .slice AO g.outer.length cO, .slice AI g.inner.length cI] ∧
    RGr w' (.slice AN g.nodes.length cN) (.slice AS g.sites.length cS) (.slice AO g.outer.length cO) (.slice AI g.inner.length cI) g ∧ Below w.heap.size w w' := by
  have hb := h.bel
  have hr := h.ob.rgr (by rw [hg]; exact hs)
  obtain ⟨r, e, ns, ls, ss, os, is, AN, cN, AS, cS, AO, cO, AI, cI, rfl⟩ := h.ob.open
  subst hg
  exact ⟨AN, cN, AS, cS, AO, cO, AI, cI, rfl, hr, hb⟩

end Go.Proofs.YtijkdpdmclkmlaaGreatDoor
