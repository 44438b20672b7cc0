/- Bigraphs that are built: what a builder gives back, and its end. Links that are turned in place: plain lists, and the rows of a built bigraph. No walk. -/
import Derived.Test.YtijkdpdmclkmlaaGreatDoorProg
import Derived.Test.YtijkdpdmclkmlaaGreatDoorJ18
import Derived.Test.YtijkdpdmclkmlaaGreatDoorJ16
import Derived.Test.YtijkdpdmclkmlaaGreatDoorJ8
set_option linter.unusedSimpArgs false
set_option linter.unusedVariables false
set_option maxRecDepth 100000
set_option maxHeartbeats 16000000
namespace Go.Proofs.YtijkdpdmclkmlaaGreatDoor
open Go.RowKit
/-- A bigraph in rows of its own, laid by the call. -/
structure RG (w w' : World) (X : BX) : Prop where
  ob : OB w' w.heap.size X
  bel : Below w.heap.size w w'
  cap : True
theorem RG.rgr {w w' W : World} {X : BX} (h : RG w w' X) (hb : Below w'.heap.size w' W) (hs : SmallG X.g) : RGr W X.nv X.sv X.ov X.iv X.g := (h.ob.below hb).rgr hs

theorem rcell2 {P : Program} {fn : Func} {p q : Tmp} {ty : TypeId} (h : fn.results = #[.cell p ty, .tmp q]) (tmps : Array Value) (w : World) (g : Nat) (t : TypeId) (cs : Array Value) (fr : Nat × Nat) (d : TypeDesc)
    (hp : tmps.getD p undef = .pointer (some ⟨g, 0, none⟩)) (hg : w.heap[g]? = some (.cells cs t fr))
    (hu : P.underlying ty = some d) (hd : (match d with | .struct _ | .array _ _ => true | _ => false) = true) (hi : (P.info? ty).map (·.size) = some cs.size) :
    (results fn tmps).run P w = .ok (.tuple #[.agg cs, tmps.getD q undef]) w := by
  have hp' : tmps[p]?.getD undef = .pointer (some ⟨g, 0, none⟩) := by simpa using hp
  simp [results, h, hp', asAddr, run_loadVar_row w g t ty cs fr d hg hu hd hi]

section
variable {w w0 W : World} {P : Nat} {bx : Array Value} {X : BX}
theorem fin6_of (h0 : Below w.heap.size w w0) (hR : w0.heap[w.heap.size]? = some (.cells ZB 31)) (hs : w.heap.size < W.heap.size) (hk : Kept (fun q => w.heap.size + 1 ≤ q) w0 W) (hob : OB W (w.heap.size + 1) X) :
    ((((((W.setCell ⟨w.heap.size, 0, none⟩ (.int .i64 X.r)).setCell ⟨w.heap.size, 1, none⟩ X.nv).setCell ⟨w.heap.size, 2, none⟩ X.sv).setCell ⟨w.heap.size, 3, none⟩ (.int .i64 X.e)).setCell ⟨w.heap.size, 4, none⟩ X.ov).setCell ⟨w.heap.size, 5, none⟩ X.iv).heap[w.heap.size]? = some (.cells X.cells 31) ∧
    RG w ((((((W.setCell ⟨w.heap.size, 0, none⟩ (.int .i64 X.r)).setCell ⟨w.heap.size, 1, none⟩ X.nv).setCell ⟨w.heap.size, 2, none⟩ X.sv).setCell ⟨w.heap.size, 3, none⟩ (.int .i64 X.e)).setCell ⟨w.heap.size, 4, none⟩ X.ov).setCell ⟨w.heap.size, 5, none⟩ X.iv) X := by
  have hl := (Array.getElem?_eq_some_iff.1 hR).1
  have hR2 := (hk.block w.heap.size hl (by omega)).trans hR
  have e0 := heap_setCell_same W w.heap.size 0 _ _ (.int .i64 X.r) hR2
  have e1 := heap_setCell_same _ w.heap.size 1 _ _ X.nv e0
  have e2 := heap_setCell_same _ w.heap.size 2 _ _ X.sv e1
  have e3 := heap_setCell_same _ w.heap.size 3 _ _ (.int .i64 X.e) e2
  have e4 := heap_setCell_same _ w.heap.size 4 _ _ X.ov e3
  have e5 := heap_setCell_same _ w.heap.size 5 _ _ X.iv e4
  have hKF := (((((((Kept.refl (fun q => q = w.heap.size) W).setCell (p := ⟨w.heap.size, 0, none⟩) rfl (.int .i64 X.r)).setCell (p := ⟨w.heap.size, 1, none⟩) rfl X.nv).setCell (p := ⟨w.heap.size, 2, none⟩) rfl X.sv).setCell (p := ⟨w.heap.size, 3, none⟩) rfl (.int .i64 X.e)).setCell (p := ⟨w.heap.size, 4, none⟩) rfl X.ov).setCell (p := ⟨w.heap.size, 5, none⟩) rfl X.iv)
  refine ⟨e5, (hob.kept hKF (fun q hq => by omega)).mono (by omega), ?_, trivial⟩
  have k4 := ((Kept.of_below h0 (fun q => w.heap.size ≤ q)).trans (hk.mono fun q hq => by omega)).trans (hKF.mono fun q hq => by omega)
  exact ⟨k4.os, k4.tape, k4.output, k4.size, fun q hq => k4.block q hq (by omega)⟩
/-- The bigraph of the box P is handed back by way of the result's box. -/
theorem fin6 (h0 : Below w.heap.size w w0) (hR : w0.heap[w.heap.size]? = some (.cells ZB 31)) (hP : w.heap.size < P) (h : GT w0 (w.heap.size + 1) P bx X W) :
    ((((((W.setCell ⟨w.heap.size, 0, none⟩ (.int .i64 X.r)).setCell ⟨w.heap.size, 1, none⟩ X.nv).setCell ⟨w.heap.size, 2, none⟩ X.sv).setCell ⟨w.heap.size, 3, none⟩ (.int .i64 X.e)).setCell ⟨w.heap.size, 4, none⟩ X.ov).setCell ⟨w.heap.size, 5, none⟩ X.iv).heap[w.heap.size]? = some (.cells X.cells 31) ∧
    RG w ((((((W.setCell ⟨w.heap.size, 0, none⟩ (.int .i64 X.r)).setCell ⟨w.heap.size, 1, none⟩ X.nv).setCell ⟨w.heap.size, 2, none⟩ X.sv).setCell ⟨w.heap.size, 3, none⟩ (.int .i64 X.e)).setCell ⟨w.heap.size, 4, none⟩ X.ov).setCell ⟨w.heap.size, 5, none⟩ X.iv) X :=
  fin6_of h0 hR (by have := (Array.getElem?_eq_some_iff.1 hR).1; have := h.k.size; omega) (h.k.mono fun q hq => by omega) h.ob
end

theorem gt_below {w w0 W : World} {P : Nat} {bx : Array Value} {X : BX} (h : GT w0 (w.heap.size + 1) P bx X W) (h0 : Below w.heap.size w w0) (hP : w.heap.size < P) : Below w.heap.size w W := by
  have k4 := (Kept.of_below h0 (fun q => w.heap.size ≤ q)).trans (h.k.mono fun q hq => by omega)
  exact ⟨k4.os, k4.tape, k4.output, k4.size, fun q hq => k4.block q hq (by omega)⟩
abbrev nilV : Value := .slice none 0 0
/-- Without nodes and edges. -/
def bI (r : Int) (ov : Value) (os : List ByteArray) (sv : Value) (ss : List Int) (iv : Value) (is : List Wi) : BX := ⟨r, 0, nilV, sv, ov, iv, [], [], ss, os, is⟩
theorem rm_succ {α : Type} (f : Nat → α) (k : Nat) : (List.range (k + 1)).map f = (List.range k).map f ++ [f k] := by rw [List.range_succ, List.map_append]; rfl
theorem map_getD {α β : Type} (d : α) (f : α → β) (l : List α) : l.map f = (List.range l.length).map fun i => f (l.getD i d) := by
  apply List.ext_getElem
  · simp
  intro i h1 h2
  simp only [List.getElem_map, List.getElem_range]
  rw [getD_some (List.getElem?_eq_getElem (by simpa using h1))]
theorem bI_S {w0 W : World} {B P : Nat} {bx : Array Value} {r : Int} {ov sv iv : Value} {os : List ByteArray} {is : List Wi} {f : Nat → Int} {k : Nat} (h : GT w0 B P bx (bI r ov os sv ((List.range k).map f) iv is) W) : W.ownsRow B 3 1 sv k (ints ((List.range k).map f)) := by
  have := h.ob.S
  rw [show (bI r ov os sv ((List.range k).map f) iv is).ss.length = k from by simp [bI]] at this
  exact this
theorem bI_I {w0 W : World} {B P : Nat} {bx : Array Value} {r : Int} {ov sv iv : Value} {os : List ByteArray} {ss : List Int} {f : Nat → Wi} {k : Nat} (h : GT w0 B P bx (bI r ov os sv ss iv ((List.range k).map f)) W) : W.ownsRow B 90 2 iv k (((List.range k).map f).flatMap encWi) := by
  have := h.ob.I
  rw [show (bI r ov os sv ss iv ((List.range k).map f)).is.length = k from by simp [bI]] at this
  exact this
theorem GT.addS {w0 W W' : World} {B P : Nat} {bx : Array Value} {r : Int} {ov sv iv v : Value} {os : List ByteArray} {is : List Wi} {f : Nat → Int} {k : Nat} (h : GT w0 B P bx (bI r ov os sv ((List.range k).map f) iv is) W) (ho : W'.ownsRow B 3 1 v (k + 1) (ints ((List.range k).map f) ++ [.int .i64 (f k)])) (hk : Kept (fun q => sv.ownBlock = some q) W W') (hm : Moved W sv v) : GT w0 B P bx (bI r ov os v ((List.range (k + 1)).map f) iv is) W' := by
  have := h.appS (x := f k) (v := v) (by rw [show (bI r ov os sv ((List.range k).map f) iv is).ss.length = k from by simp [bI]]; exact ho) hk hm
  rw [rm_succ]
  exact this
theorem GT.addI {w0 W W' : World} {B P : Nat} {bx : Array Value} {r : Int} {ov sv iv v : Value} {os : List ByteArray} {ss : List Int} {f : Nat → Wi} {k : Nat} (h : GT w0 B P bx (bI r ov os sv ss iv ((List.range k).map f)) W) (ho : W'.ownsRow B 90 2 v (k + 1) (((List.range k).map f).flatMap encWi ++ [.string (f k).1, .int .i64 (f k).2])) (hk : Kept (fun q => iv.ownBlock = some q) W W') : GT w0 B P bx (bI r ov os sv ss v ((List.range (k + 1)).map f)) W' := by
  have := h.appI (x := f k) (v := v) (by rw [show (bI r ov os sv ss iv ((List.range k).map f)).is.length = k from by simp [bI]]; exact ho) hk
  rw [rm_succ]
  exact this
theorem el_wireG : El Tryz.prog 29 90 2 24 := El.mk' Tryz.underlying29 (by kernel_rfl : _ = some (some (.agg #[.string ⟨#[]⟩, .int .i64 0]), 2, 24)) rfl (by decide)
theorem wi_one (s : ByteArray) (l : Int) : ∀ u ∈ ([.string s, .int .i64 l] : List Value), u.oneCell' = true := by
  intro u hu
  simp at hu
  rcases hu with rfl | rfl <;> rfl

/-- The same where the result's box is another one. -/
theorem fin6R {w w0 W : World} {X : BX} (R : Nat) (h0 : Below w.heap.size w w0) (hw : w.heap.size ≤ R) (hR : w0.heap[R]? = some (.cells ZB 31)) (hk : Kept (fun q => R + 1 ≤ q) w0 W) (hob : OB W (R + 1) X) :
    ((((((W.setCell ⟨R, 0, none⟩ (.int .i64 X.r)).setCell ⟨R, 1, none⟩ X.nv).setCell ⟨R, 2, none⟩ X.sv).setCell ⟨R, 3, none⟩ (.int .i64 X.e)).setCell ⟨R, 4, none⟩ X.ov).setCell ⟨R, 5, none⟩ X.iv).heap[R]? = some (.cells X.cells 31) ∧
    RG w ((((((W.setCell ⟨R, 0, none⟩ (.int .i64 X.r)).setCell ⟨R, 1, none⟩ X.nv).setCell ⟨R, 2, none⟩ X.sv).setCell ⟨R, 3, none⟩ (.int .i64 X.e)).setCell ⟨R, 4, none⟩ X.ov).setCell ⟨R, 5, none⟩ X.iv) X := by
  have hl := (Array.getElem?_eq_some_iff.1 hR).1
  have hR2 := (hk.block R hl (by omega)).trans hR
  have e0 := heap_setCell_same W R 0 _ _ (.int .i64 X.r) hR2
  have e1 := heap_setCell_same _ R 1 _ _ X.nv e0
  have e2 := heap_setCell_same _ R 2 _ _ X.sv e1
  have e3 := heap_setCell_same _ R 3 _ _ (.int .i64 X.e) e2
  have e4 := heap_setCell_same _ R 4 _ _ X.ov e3
  have e5 := heap_setCell_same _ R 5 _ _ X.iv e4
  have hKF := (((((((Kept.refl (fun q => q = R) W).setCell (p := ⟨R, 0, none⟩) rfl (.int .i64 X.r)).setCell (p := ⟨R, 1, none⟩) rfl X.nv).setCell (p := ⟨R, 2, none⟩) rfl X.sv).setCell (p := ⟨R, 3, none⟩) rfl (.int .i64 X.e)).setCell (p := ⟨R, 4, none⟩) rfl X.ov).setCell (p := ⟨R, 5, none⟩) rfl X.iv)
  refine ⟨e5, (hob.kept hKF (fun q hq => by omega)).mono (by omega), ?_, trivial⟩
  have k4 := ((Kept.of_below h0 (fun q => w.heap.size ≤ q)).trans (hk.mono fun q hq => by omega)).trans (hKF.mono fun q hq => by omega)
  exact ⟨k4.os, k4.tape, k4.output, k4.size, fun q hq => k4.block q hq (by omega)⟩
def zeroG : Gr := ⟨0, [], [], 0, [], []⟩
def zeroX : BX := ⟨0, 0, nilV, nilV, nilV, nilV, [], [], [], [], []⟩
theorem zero_ob (W : World) (B : Nat) : OB W B zeroX := ob_none W B 0 0
/-- A bigraph that a call has built lies in a new box. -/
theorem gt_of_rg {w w1 wN : World} {B : Nat} {X : BX} (hr : RG w w1 X) (hB : B ≤ w.heap.size) (hw : wN = w1.alloc (.cells X.cells 31)) : GT wN B w1.heap.size X.cells X wN := by
  have hb : Below w1.heap.size w1 wN := by rw [hw]; exact (Below.refl _ _).alloc (Nat.le_refl _) _
  exact { k := Kept.refl _ _, box := by rw [hw]; exact heap_alloc_new _ _, ob := (hr.ob.below hb).mono hB }

/-- Of the nodes below i all links are turned, of node i the first k. -/
def mixT (f : Int → Int) (l : List Int) (k : Nat) : List Int := (l.take k).map f ++ l.drop k
def turnN (f : Int → Int) (i k j : Nat) (x : Nod) : Nod := (x.1, x.2.1, if j < i then x.2.2.map f else if j = i then mixT f x.2.2 k else x.2.2)
def turnL (f : Int → Int) (ns : List Nod) (i k : Nat) : List Nod := ns.mapIdx (turnN f i k)
def turnW (f : Int → Int) (is : List Wi) (k : Nat) : List Wi := (is.take k).map (fun w => (w.1, f w.2)) ++ is.drop k

section
variable {f : Int → Int}
theorem mixT_len (l : List Int) (k : Nat) : (mixT f l k).length = l.length := by unfold mixT; simp; omega
theorem mixT_zero (l : List Int) : mixT f l 0 = l := by simp [mixT]
theorem mixT_all (l : List Int) : mixT f l l.length = l.map f := by simp [mixT]
theorem mixT_at {l : List Int} {k : Nat} (h : k < l.length) : (mixT f l k)[k]? = some (l.getD k 0) := by
  unfold mixT
  rw [List.getElem?_append_right (by simp; omega), List.length_map, List.length_take, Nat.min_eq_left (by omega), Nat.sub_self, List.getElem?_drop, Nat.add_zero, getD_lt (d := 0) h]
theorem mixT_next {l : List Int} {k : Nat} (h : k < l.length) : (mixT f l k).set k (f (l.getD k 0)) = mixT f l (k + 1) := by
  unfold mixT
  have hd : l.drop k = l.getD k 0 :: l.drop (k + 1) := by
    rw [List.drop_eq_getElem_cons h]
    congr 1
    simp [List.getD, h]
  have ht : l.take (k + 1) = l.take k ++ [l.getD k 0] := by
    rw [List.take_succ_eq_append_getElem h]
    simp [List.getD, h]
  have hl : ((l.take k).map f).length = k := by simp; omega
  rw [List.set_append_right _ _ (by omega), hl, Nat.sub_self, hd, List.set_cons_zero, ht, List.map_append]
  simp
theorem turnL_len (ns : List Nod) (i k : Nat) : (turnL f ns i k).length = ns.length := by simp [turnL]
theorem turnL_get (ns : List Nod) (i k j : Nat) : (turnL f ns i k)[j]? = ns[j]?.map (turnN f i k j) := by simp [turnL]
theorem turnL_at {ns : List Nod} {i k : Nat} {x : Nod} (h : ns[i]? = some x) : (turnL f ns i k)[i]? = some (x.1, x.2.1, mixT f x.2.2 k) := by
  rw [turnL_get, h]
  simp [turnN]
theorem turnL_zero (ns : List Nod) : turnL f ns 0 0 = ns := by
  apply List.ext_getElem?
  intro j
  rw [turnL_get]
  cases h : ns[j]? with
  | none => rfl
  | some x =>
    simp only [Option.map_some, turnN, Nat.not_lt_zero, if_false, mixT_zero, ite_self]
theorem turnL_next {ns : List Nod} {i k : Nat} {x : Nod} (h : ns[i]? = some x) (hk : k < x.2.2.length) : (turnL f ns i k).set i (x.1, x.2.1, (mixT f x.2.2 k).set k (f (x.2.2.getD k 0))) = turnL f ns i (k + 1) := by
  apply List.ext_getElem?
  intro j
  rw [List.getElem?_set, turnL_get, turnL_get, turnL_len]
  by_cases e : i = j
  · subst e
    rw [if_pos rfl, if_pos (List.getElem?_eq_some_iff.1 h).1, h, mixT_next hk]
    simp [turnN]
  rw [if_neg e]
  cases ns[j]? with
  | none => rfl
  | some y => simp [turnN, show ¬ j = i from fun h => e h.symm]
theorem turnL_row {ns : List Nod} {i : Nat} {x : Nod} (h : ns[i]? = some x) : turnL f ns i x.2.2.length = turnL f ns (i + 1) 0 := by
  apply List.ext_getElem?
  intro j
  rw [turnL_get, turnL_get]
  cases h2 : ns[j]? with
  | none => rfl
  | some y =>
    simp only [Option.map_some, turnN]
    congr 3
    rcases Nat.lt_trichotomy j i with hj | hj | hj
    · rw [if_pos hj, if_pos (by omega)]
    · subst hj
      rw [h] at h2
      cases h2
      rw [if_neg (Nat.lt_irrefl _), if_pos rfl, if_pos (by omega), mixT_all]
    rw [if_neg (by omega), if_neg (by omega)]
    by_cases e : j = i + 1
    · rw [if_neg (by omega), if_pos e, mixT_zero]
    rw [if_neg (by omega), if_neg e]
theorem turnL_all (ns : List Nod) : turnL f ns ns.length 0 = ns.map fun x => (x.1, x.2.1, x.2.2.map f) := by
  apply List.ext_getElem?
  intro j
  rw [turnL_get, List.getElem?_map]
  cases h : ns[j]? with
  | none => rfl
  | some x => simp [turnN, (List.getElem?_eq_some_iff.1 h).1]
theorem turnW_len (is : List Wi) (k : Nat) : (turnW f is k).length = is.length := by unfold turnW; simp; omega
theorem turnW_zero (is : List Wi) : turnW f is 0 = is := by simp [turnW]
theorem turnW_all (is : List Wi) : turnW f is is.length = is.map fun w => (w.1, f w.2) := by simp [turnW]
theorem turnW_at {is : List Wi} {k : Nat} (h : k < is.length) : (turnW f is k)[k]? = some (is.getD k wi0) := by
  unfold turnW
  rw [List.getElem?_append_right (by simp; omega), List.length_map, List.length_take, Nat.min_eq_left (by omega), Nat.sub_self, List.getElem?_drop, Nat.add_zero, getD_lt (d := wi0) h]
theorem turnW_next {is : List Wi} {k : Nat} (h : k < is.length) : (turnW f is k).set k ((is.getD k wi0).1, f (is.getD k wi0).2) = turnW f is (k + 1) := by
  unfold turnW
  have hd : is.drop k = is.getD k wi0 :: is.drop (k + 1) := by
    rw [List.drop_eq_getElem_cons h]
    congr 1
    simp [List.getD, h]
  have ht : is.take (k + 1) = is.take k ++ [is.getD k wi0] := by
    rw [List.take_succ_eq_append_getElem h]
    simp [List.getD, h]
  have hl : ((is.take k).map fun w : Wi => (w.1, f w.2)).length = k := by simp; omega
  rw [List.set_append_right _ _ (by omega), hl, Nat.sub_self, hd, List.set_cons_zero, ht, List.map_append]
  simp
end

theorem ncells_lnk : ∀ {ns : List Nod} {ls : List Value} {i : Nat} {x : Nod} (l2 : List Int), ns[i]? = some x → ncells (ns.set i (x.1, x.2.1, l2)) ls = ncells ns ls
  | [], _, _, _, _, h => by simp at h
  | _ :: _, [], 0, _, _, _ => rfl
  | _ :: _, [], _ + 1, _, _, _ => rfl
  | y :: ns, m :: ls, 0, x, l2, h => by
    simp at h
    subst h
    rfl
  | y :: ns, m :: ls, i + 1, x, l2, h => by
    have := ncells_lnk (ns := ns) (ls := ls) (i := i) (x := x) l2 (by simpa using h)
    simp only [List.set_cons_succ, ncells, this]
theorem wis_set : ∀ {is : List Wi} {k : Nat} {x : Wi} (v : Int), is[k]? = some x → (is.flatMap encWi).set (k * 2 + 1) (.int .i64 v) = (is.set k (x.1, v)).flatMap encWi
  | [], _, _, _, h => by simp at h
  | y :: is, 0, x, v, h => by
    simp at h
    subst h
    rfl
  | y :: is, k + 1, x, v, h => by
    have := wis_set (is := is) (k := k) (x := x) v (by simpa using h)
    rw [show (k + 1) * 2 + 1 = k * 2 + 1 + 1 + 1 by omega]
    simp only [List.flatMap_cons, List.set_cons_succ, encWi, List.cons_append, List.nil_append]
    congr 2

section
variable {w W W' : World} {B P : Nat} {bx : Array Value} {X : BX}
/-- A link of a node is stored. -/
theorem GT.setL (h : GT w B P bx X W) {i k g c : Nat} {x : Nod} (hx : X.ns[i]? = some x) (hl : X.ls[i]? = some (.slice (some ⟨g, 0, none⟩) x.2.2.length c)) (v : Int) : GT w B P bx { X with ns := X.ns.set i (x.1, x.2.1, x.2.2.set k v) } (W.setCell ⟨g, k, none⟩ (.int .i64 v)) := by
  have hr := h.ob.N.lk i _ x hl hx
  have hK : Kept (fun q => q = g) W (W.setCell ⟨g, k, none⟩ (.int .i64 v)) := (Kept.refl _ W).setCell (S := fun q => q = g) (p := ⟨g, k, none⟩) rfl _
  have hog : (Value.slice (some ⟨g, 0, none⟩) x.2.2.length c).ownBlock = some g := rfl
  have hBg := (hr.lt g hog).1
  have hil := (List.getElem?_eq_some_iff.1 hx).1
  refine { k := h.k.trans (hK.mono fun b hb => .inr (by omega)), box := (hK.block P (Array.getElem?_eq_some_iff.1 h.box).1 (fun e => ownsT hr h.box (by decide) (by rw [e]; rfl))).trans h.box
           ob := { N := { own := ?_, len := by show X.ls.length = (X.ns.set i _).length; rw [List.length_set]; exact h.ob.N.len, lk := fun j l y hjl hy => ?_, dis := h.ob.N.dis, sep := h.ob.N.sep }
                   S := ownsK h.ob.S hK (fun q hq e => by subst e; exact h.ob.N.sep i _ q hl rfl hq)
                   O := ownsK h.ob.O hK (fun q hq e => by subst e; exact ownsA h.ob.O hr (by decide) q hq hog), I := ownsK h.ob.I hK (fun q hq e => by subst e; exact ownsA h.ob.I hr (by decide) q hq hog) } }
  · show (W.setCell _ _).ownsRow B 88 3 X.nv (X.ns.set i (x.1, x.2.1, x.2.2.set k v)).length (ncells (X.ns.set i (x.1, x.2.1, x.2.2.set k v)) X.ls)
    rw [List.length_set, ncells_lnk _ hx]
    exact ownsK h.ob.N.own hK (fun q hq e => by subst e; exact ownsA h.ob.N.own hr (by decide) q hq hog)
  replace hjl : X.ls[j]? = some l := hjl
  replace hy : (X.ns.set i (x.1, x.2.1, x.2.2.set k v))[j]? = some y := hy
  rw [List.getElem?_set] at hy
  by_cases e : i = j
  · subst e
    rw [if_pos rfl, if_pos hil] at hy
    cases hy
    rw [hl] at hjl
    cases hjl
    have hs := (hr.stored k (.int .i64 v)).1
    show (W.setCell _ _).ownsRow B 3 1 _ (x.2.2.set k v).length (ints (x.2.2.set k v))
    rw [List.length_set, show ints (x.2.2.set k v) = (ints x.2.2).set k (.int .i64 v) from by unfold ints; rw [List.map_set]]
    exact hs
  rw [if_neg e] at hy
  have hr2 := h.ob.N.lk j l y hjl hy
  refine ownsK hr2 hK (fun q hq e2 => ?_)
  subst e2
  rcases Nat.lt_or_gt_of_ne e with e | e
  · exact h.ob.N.dis i j _ l q e hl hjl rfl hq
  exact h.ob.N.dis j i l _ q e hjl hl hq rfl
/-- The link of an inner name is stored. -/
theorem GT.setW (h : GT w B P bx X W) {k g c : Nat} {x : Wi} (hx : X.is[k]? = some x) (hl : X.iv = .slice (some ⟨g, 0, none⟩) X.is.length c) (v : Int) : GT w B P bx { X with is := X.is.set k (x.1, v) } (W.setCell ⟨g, k * 2 + 1, none⟩ (.int .i64 v)) := by
  have hr := h.ob.I
  have hog : X.iv.ownBlock = some g := by rw [hl]; rfl
  have hK : Kept (fun q => q = g) W (W.setCell ⟨g, k * 2 + 1, none⟩ (.int .i64 v)) := (Kept.refl _ W).setCell (S := fun q => q = g) (p := ⟨g, k * 2 + 1, none⟩) rfl _
  have hBg := (hr.lt g hog).1
  refine { k := h.k.trans (hK.mono fun b hb => .inr (by omega)), box := (hK.block P (Array.getElem?_eq_some_iff.1 h.box).1 (fun e => ownsT hr h.box (by decide) (by rw [hog, e]))).trans h.box
           ob := { N := h.ob.N.kept hK (fun q hq e => by subst e; exact ownsA h.ob.N.own hr (by decide) q hq hog) (fun i l q hl hq e => by obtain ⟨y, _, hy⟩ := h.ob.N.lkown hl; subst e; exact ownsA hy hr (by decide) q hq hog)
                   S := ownsK h.ob.S hK (fun q hq e => by subst e; exact ownsA h.ob.S hr (by decide) q hq hog), O := ownsK h.ob.O hK (fun q hq e => by subst e; exact ownsA h.ob.O hr (by decide) q hq hog), I := ?_ } }
  show (W.setCell _ _).ownsRow B 90 2 X.iv (X.is.set k (x.1, v)).length ((X.is.set k (x.1, v)).flatMap encWi)
  rw [List.length_set, ← wis_set v hx, hl]
  rw [hl] at hr
  exact (hr.stored (k * 2 + 1) (.int .i64 v)).1
/-- The links' row of a node, and its cells. -/
theorem GT.lrow (h : GT w B P bx X W) {i : Nat} {x : Nod} (hx : X.ns[i]? = some x) : ∃ g cc A c, X.nv = .slice (some ⟨g, 0, none⟩) X.ns.length cc ∧ X.ls[i]? = some (.slice A x.2.2.length c) ∧ W.cell? ⟨g, i * 3, none⟩ = some (.int .i64 x.1) ∧ W.cell? ⟨g, i * 3 + 1, none⟩ = some (.int .i64 x.2.1) ∧ W.cell? ⟨g, i * 3 + 2, none⟩ = some (.slice A x.2.2.length c) ∧ W.ownsRow B 3 1 (.slice A x.2.2.length c) x.2.2.length (ints x.2.2) := by
  have hil := (List.getElem?_eq_some_iff.1 hx).1
  have hxe := (List.getElem?_eq_some_iff.1 hx).2
  obtain ⟨g, cc, l, e, hl, c0, c1, c2⟩ := h.ob.N.nr.cells hil
  have hr := h.ob.N.lk i l x hl hx
  obtain ⟨A, c, rfl, hr⟩ := owns_form hr
  rw [hxe] at c0 c1
  exact ⟨g, cc, A, c, e, hl, c0, c1, c2, hr⟩
end

end Go.Proofs.YtijkdpdmclkmlaaGreatDoor
