/- Systems of bigraphs in memory, as read, and what the law package reckons for their sizes. -/
import Derived.Test.YtlgdmafgbmnjdaaProg
import Derived.Test.YtlgdmafgbmnjdaaAgg
import Derived.Test.YtlgdmafgbmnjdaaLab
import Derived.StillTailTactics
import Derived.Handy
set_option linter.unusedVariables false
namespace Go.Proofs.Ytlgdmafgbmnjdaa
open Go.RowKit

/-- A node: control, parent, links. A wire: name, link. -/
abbrev BN := Int × Int × List Int
abbrev BW := ByteArray × Int
/-- A bigraph: roots, nodes, sites, edges, outer names, inner names. -/
abbrev Big := Int × List BN × List Int × Int × List ByteArray × List BW
instance decBW : DecidableEq (List BW) := inferInstance
instance decBN : DecidableEq (List BN) := inferInstance
instance decB4 : DecidableEq (List ByteArray × List BW) := inferInstance
instance decB3 : DecidableEq (Int × List ByteArray × List BW) := inferInstance
instance decB2 : DecidableEq (List Int × Int × List ByteArray × List BW) := inferInstance
instance decB1 : DecidableEq (List BN × List Int × Int × List ByteArray × List BW) := inferInstance
instance decBig : DecidableEq Big := inferInstanceAs (DecidableEq (Int × List BN × List Int × Int × List ByteArray × List BW))
structure Sys where
  states : List Big
  steps : List I3

def RBN (w : World) (cs : List Value) (x : BN) : Prop := ∃ v, cs = [.int .i64 x.1, .int .i64 x.2.1, v] ∧ RI w v x.2.2
def RStr (_ : World) (cs : List Value) (x : ByteArray) : Prop := cs = [.string x] ∧ x.size ≤ maxLen
def RBW (_ : World) (cs : List Value) (x : BW) : Prop := cs = [.string x.1, .int .i64 x.2] ∧ x.1.size ≤ maxLen
theorem RBN_keep : KeepR RBN := fun _ _ _ _ ⟨v, e, h⟩ hb => ⟨v, e, h.below hb⟩
theorem RStr_keep : KeepR RStr := fun _ _ _ _ h _ => h
theorem RBW_keep : KeepR RBW := fun _ _ _ _ h _ => h
def RBig (w : World) (cs : List Value) (x : Big) : Prop :=
  ∃ nv sv ov iv, cs = [.int .i64 x.1, nv, sv, .int .i64 x.2.2.2.1, ov, iv] ∧ RSl RBN 3 w nv x.2.1 ∧ RI w sv x.2.2.1 ∧ RSl RStr 1 w ov x.2.2.2.2.1 ∧ RSl RBW 2 w iv x.2.2.2.2.2
theorem RBig_keep : KeepR RBig := fun _ _ _ _ ⟨nv, sv, ov, iv, e, h1, h2, h3, h4⟩ hb => ⟨nv, sv, ov, iv, e, h1.below RBN_keep hb, h2.below hb, h3.below RStr_keep hb, h4.below RBW_keep hb⟩
def RSys (w : World) (v : Value) (x : Sys) : Prop := ∃ sv tv, v = .agg #[sv, tv] ∧ RSl RBig 6 w sv x.states ∧ RA3 w tv x.steps
theorem RSys.below {w w' : World} {v : Value} {x : Sys} (h : RSys w v x) (hb : Below w.heap.size w w') : RSys w' v x := by
  obtain ⟨sv, tv, e, h1, h2⟩ := h
  exact ⟨sv, tv, e, h1.below RBig_keep hb, h2.below hb⟩

/-- What an element costs, and a list of them. -/
def costL {α : Type} (c : α → Nat) (l : List α) : Nat := l.length + (l.map c).sum
def costBN (x : BN) : Nat := x.2.2.length
def costStr (x : ByteArray) : Nat := x.size
def costBW (x : BW) : Nat := x.1.size
def costBig (x : Big) : Nat := costL costBN x.2.1 + x.2.2.1.length + costL costStr x.2.2.2.2.1 + costL costBW x.2.2.2.2.2
def costSys (x : Sys) : Nat := costL costBig x.states + x.steps.length

theorem sum_next {α : Type} (c : α → Nat) (l : List α) (k : Nat) (x : α) (h : l[k]? = some x) : ((l.take (k + 1)).map c).sum = ((l.take k).map c).sum + c x := by
  obtain ⟨hl, e⟩ := List.getElem?_eq_some_iff.1 h
  rw [List.take_succ_eq_append_getElem hl, e]
  simp
theorem cost_mem {α : Type} {c : α → Nat} {l : List α} {x : α} (h : x ∈ l) : c x ≤ costL c l := by
  unfold costL
  induction l with
  | nil => cases h
  | cons a r ih =>
    simp only [List.map_cons, List.sum_cons, List.length_cons]
    rcases List.mem_cons.1 h with h | h
    · rw [h]; omega
    · have := ih h; omega

/-- What a size function answers: the number is used up, or what is left. -/
def Left (left : Int) (cost : Nat) (r : Int) : Prop := r = -1 ∨ (0 ≤ r ∧ r + cost = left)

theorem szIntS_left (v : Value) (xs : List Int) (left : Int) (w : World) (h0 : 0 ≤ left) (h1 : left ≤ 1048576) (hv : RI w v xs) :
    Calls Try.prog 86 #[v, .int .i64 left] w fun e w' => ∃ r, e = .returned (.int .i64 r) ∧ Left left xs.length r ∧ Below w.heap.size w w' := by
  obtain ⟨A, c, rfl, hm, _⟩ := hv
  refine (szIntS_any A xs.length c left w hm h0 h1).mono ?_
  rintro e w1 ⟨rfl, rfl⟩
  refine ⟨_, rfl, ?_, Below.refl _ _⟩
  unfold szRow Left
  split
  · exact .inl rfl
  · exact .inr ⟨by omega, by omega⟩
theorem szIntA3S_left (v : Value) (xs : List I3) (left : Int) (w : World) (h0 : 0 ≤ left) (h1 : left ≤ 1048576) (hv : RA3 w v xs) :
    Calls Try.prog 33 #[v, .int .i64 left] w fun e w' => ∃ r, e = .returned (.int .i64 r) ∧ Left left xs.length r ∧ Below w.heap.size w w' := by
  obtain ⟨A, c, rfl, hm, _⟩ := hv
  refine (szIntA3S_any A xs.length c left w hm h0 h1).mono ?_
  rintro e w1 ⟨rfl, rfl⟩
  refine ⟨_, rfl, ?_, Below.refl _ _⟩
  unfold szRow Left
  split
  · exact .inl rfl
  · exact .inr ⟨by omega, by omega⟩

set_option maxHeartbeats 1000000 in
theorem szNode_any (v : Value) (x : BN) (left : Int) (w : World) (h0 : 0 ≤ left) (h1 : left ≤ 1048576) (hv : RI w v x.2.2) :
    Calls Try.prog 102 #[.agg #[.int .i64 x.1, .int .i64 x.2.1, v], .int .i64 left] w fun e w' => ∃ r, e = .returned (.int .i64 r) ∧ Left left (costBN x) r ∧ Below w.heap.size w w' := by
  obtain ⟨a, b, xs⟩ := x
  have hb1 : ∀ o, Below w.heap.size w (w.alloc o) := fun o => (Below.refl _ _).alloc (Nat.le_refl _) o
  have H1 := Lib.hid (fun o => szIntS_left v xs left (w.alloc o) h0 h1 (hv.below (hb1 o)))
  have HB := Lib.hid hb1
  clear hv hb1
  go_enter Try.func102, Try.ntmps102
  go_wp2_with fail
  refine (H1.out _).mono ?_
  rintro e w1 ⟨r, rfl, hr, hw⟩
  have hz := (HB.out _).trans (hw.mono (HB.out _).size)
  clear hw
  have HL := Lib.hid (show Left left (costBN (a, b, xs)) r from hr)
  rcases hr with rfl | ⟨hr0, hr1⟩
  · go_wp2_with fail
    go_ret
    exact ⟨_, rfl, HL.out, hz⟩
  · go_wp2_with fail
    go_ret
    exact ⟨_, rfl, HL.out, hz⟩

set_option maxHeartbeats 1000000 in
theorem szWire_any (x : BW) (left : Int) (w : World) (h0 : 0 ≤ left) (h1 : left ≤ 1048576) (hn : x.1.size ≤ maxLen) :
    Calls Try.prog 103 #[.agg #[.string x.1, .int .i64 x.2], .int .i64 left] w fun e w' => ∃ r, e = .returned (.int .i64 r) ∧ Left left (costBW x) r ∧ Below w.heap.size w w' := by
  obtain ⟨s, b⟩ := x
  have hn' : (s.size : Int) ≤ 9223372036854775807 := by have h2 : s.size ≤ maxLen := hn; unfold maxLen at h2; omega
  clear hn
  by_cases hl : left - (s.size : Int) < 0
  · go_enter Try.func103, Try.ntmps103
    go_wp2
    go_ret
    exact ⟨_, rfl, .inl rfl, (Below.refl _ _).alloc (Nat.le_refl _) _⟩
  · go_enter Try.func103, Try.ntmps103
    go_wp2
    go_ret
    exact ⟨_, rfl, .inr ⟨by omega, by show left - (s.size : Int) + (s.size : Nat) = left; omega⟩, (Below.refl _ _).alloc (Nat.le_refl _) _⟩

set_option maxRecDepth 100000 in
set_option maxHeartbeats 2000000 in
theorem szNodeS_any (v : Value) (l : List BN) (left : Int) (w : World) (h0 : 0 ≤ left) (h1 : left ≤ 1048576) (hv : RSl RBN 3 w v l) :
    Calls Try.prog 85 #[v, .int .i64 left] w fun e w' => ∃ r, e = .returned (.int .i64 r) ∧ Left left (costL costBN l) r ∧ Below w.heap.size w w' := by
  have HV := Lib.hid (show ∀ W, Below w.heap.size w W → RSl RBN 3 W v l from fun W hb => hv.below RBN_keep hb)
  obtain ⟨A, c, rfl, hm⟩ := hv.form
  have hn' : (l.length : Int) ≤ 9223372036854775807 := by unfold maxLen at hm; omega
  clear hv hm
  by_cases hl : left - (l.length : Int) < 0
  · go_enter Try.func85, Try.ntmps85
    go_wp2
    go_ret
    exact ⟨_, rfl, .inl rfl, Below.refl _ _⟩
  · go_enter Try.func85, Try.ntmps85
    go_wp2
    go_loopw [1, 5] (fun lf i wr => ∃ (k : Nat) (m : Int), k ≤ l.length ∧ i = .int .i64 k ∧ lf = .int .i64 m ∧ 0 ≤ m ∧ m ≤ 1048576 ∧ m + ((l.take k).map costBN).sum = left - l.length ∧ Below w.heap.size w wr)
      (fun _ i _ => l.length - (intOf i).toNat)
    case atStart => exact ⟨0, _, Nat.zero_le _, rfl, rfl, by omega, by omega, by simp, Below.refl _ _⟩
    case round =>
      obtain ⟨k, m, hk, rfl, rfl, hm0, hm1, hE, hbel⟩ := hrel
      by_cases hlt : k < l.length
      · obtain ⟨b, o, c', cs, ev, hcl, hcr, hc⟩ := (HV.out wr hbel).at_ (by omega) (List.getElem?_eq_getElem hlt)
        cases ev
        have HX := Lib.hid (sum_next costBN l k _ (List.getElem?_eq_getElem hlt))
        generalize l[k] = x at *
        obtain ⟨lv, rfl, hlv⟩ := hcr
        have k0 := hc 0 _ rfl
        have k1 := hc 1 _ rfl
        have k2 := hc 2 _ rfl
        rw [Nat.add_zero] at k0
        rw [← Nat.add_assoc] at k1 k2
        have H := Lib.hid (szNode_any lv x m wr hm0 hm1 hlv)
        clear hc hcl
        have HB := Lib.hid hbel
        clear hbel
        go_wp2_with fail
        refine H.out.mono ?_
        rintro e w1 ⟨r, rfl, hr, hb1⟩
        have hz := HB.out.trans (hb1.mono HB.out.size)
        clear hb1
        rcases hr with rfl | ⟨hr0, hr1⟩
        · go_wp2_with fail
          go_ret
          exact ⟨_, rfl, .inl rfl, hz⟩
        · have hm' : r ≤ 1048576 := by omega
          go_wp2_with fail
          go_roundw
          case rel => exact ⟨k + 1, r, by omega, by go_num, rfl, hr0, hm', by rw [HX.out]; omega, hz⟩
          case measure => simp [intOf]; omega
      · obtain rfl : k = l.length := by omega
        rw [List.take_length] at hE
        have HE := Lib.hid (show Left left (costL costBN l) m from .inr ⟨hm0, by unfold costL; omega⟩)
        clear hE
        go_wp2
        go_ret
        exact ⟨_, rfl, HE.out, hbel⟩

set_option maxRecDepth 100000 in
set_option maxHeartbeats 2000000 in
theorem szStringS_any (v : Value) (l : List ByteArray) (left : Int) (w : World) (h0 : 0 ≤ left) (h1 : left ≤ 1048576) (hv : RSl RStr 1 w v l) :
    Calls Try.prog 87 #[v, .int .i64 left] w fun e w' => ∃ r, e = .returned (.int .i64 r) ∧ Left left (costL costStr l) r ∧ Below w.heap.size w w' := by
  have HV := Lib.hid (show ∀ W, Below w.heap.size w W → RSl RStr 1 W v l from fun W hb => hv.below RStr_keep hb)
  obtain ⟨A, c, rfl, hm⟩ := hv.form
  have hn' : (l.length : Int) ≤ 9223372036854775807 := by unfold maxLen at hm; omega
  clear hv hm
  by_cases hl : left - (l.length : Int) < 0
  · go_enter Try.func87, Try.ntmps87
    go_wp2
    go_ret
    exact ⟨_, rfl, .inl rfl, Below.refl _ _⟩
  · go_enter Try.func87, Try.ntmps87
    go_wp2
    go_loopw [1, 5] (fun lf i wr => ∃ (k : Nat) (m : Int), k ≤ l.length ∧ i = .int .i64 k ∧ lf = .int .i64 m ∧ 0 ≤ m ∧ m ≤ 1048576 ∧ m + ((l.take k).map costStr).sum = left - l.length ∧ Below w.heap.size w wr)
      (fun _ i _ => l.length - (intOf i).toNat)
    case atStart => exact ⟨0, _, Nat.zero_le _, rfl, rfl, by omega, by omega, by simp, Below.refl _ _⟩
    case round =>
      obtain ⟨k, m, hk, rfl, rfl, hm0, hm1, hE, hbel⟩ := hrel
      by_cases hlt : k < l.length
      · obtain ⟨b, o, c', cs, ev, hcl, hcr, hc⟩ := (HV.out wr hbel).at_ (by omega) (List.getElem?_eq_getElem hlt)
        cases ev
        have HX := Lib.hid (sum_next costStr l k _ (List.getElem?_eq_getElem hlt))
        generalize l[k] = x at *
        obtain ⟨rfl, hbm⟩ := hcr
        have k0 := hc 0 _ rfl
        rw [Nat.add_zero, Nat.mul_one] at k0
        clear hc hcl
        have HB := Lib.hid hbel
        clear hbel
        have hn2 : (x.size : Int) ≤ 9223372036854775807 := by unfold maxLen at hbm; omega
        by_cases hq : m - (x.size : Int) < 0
        · go_wp2_with fail
          go_ret
          exact ⟨_, rfl, .inl rfl, HB.out⟩
        · go_wp2_with fail
          go_roundw
          case rel => exact ⟨k + 1, m - x.size, by omega, by go_num, rfl, by omega, by omega, by rw [HX.out]; show m - (x.size : Int) + ((_ + x.size : Nat) : Int) = _; omega, HB.out⟩
          case measure => simp [intOf]; omega
      · obtain rfl : k = l.length := by omega
        rw [List.take_length] at hE
        have HE := Lib.hid (show Left left (costL costStr l) m from .inr ⟨hm0, by unfold costL; omega⟩)
        clear hE
        go_wp2
        go_ret
        exact ⟨_, rfl, HE.out, hbel⟩

set_option maxRecDepth 100000 in
set_option maxHeartbeats 2000000 in
theorem szWireS_any (v : Value) (l : List BW) (left : Int) (w : World) (h0 : 0 ≤ left) (h1 : left ≤ 1048576) (hv : RSl RBW 2 w v l) :
    Calls Try.prog 88 #[v, .int .i64 left] w fun e w' => ∃ r, e = .returned (.int .i64 r) ∧ Left left (costL costBW l) r ∧ Below w.heap.size w w' := by
  have HV := Lib.hid (show ∀ W, Below w.heap.size w W → RSl RBW 2 W v l from fun W hb => hv.below RBW_keep hb)
  obtain ⟨A, c, rfl, hm⟩ := hv.form
  have hn' : (l.length : Int) ≤ 9223372036854775807 := by unfold maxLen at hm; omega
  clear hv hm
  by_cases hl : left - (l.length : Int) < 0
  · go_enter Try.func88, Try.ntmps88
    go_wp2
    go_ret
    exact ⟨_, rfl, .inl rfl, Below.refl _ _⟩
  · go_enter Try.func88, Try.ntmps88
    go_wp2
    go_loopw [1, 5] (fun lf i wr => ∃ (k : Nat) (m : Int), k ≤ l.length ∧ i = .int .i64 k ∧ lf = .int .i64 m ∧ 0 ≤ m ∧ m ≤ 1048576 ∧ m + ((l.take k).map costBW).sum = left - l.length ∧ Below w.heap.size w wr)
      (fun _ i _ => l.length - (intOf i).toNat)
    case atStart => exact ⟨0, _, Nat.zero_le _, rfl, rfl, by omega, by omega, by simp, Below.refl _ _⟩
    case round =>
      obtain ⟨k, m, hk, rfl, rfl, hm0, hm1, hE, hbel⟩ := hrel
      by_cases hlt : k < l.length
      · obtain ⟨b, o, c', cs, ev, hcl, hcr, hc⟩ := (HV.out wr hbel).at_ (by omega) (List.getElem?_eq_getElem hlt)
        cases ev
        have HX := Lib.hid (sum_next costBW l k _ (List.getElem?_eq_getElem hlt))
        generalize l[k] = x at *
        obtain ⟨rfl, hbm⟩ := hcr
        have k0 := hc 0 _ rfl
        have k1 := hc 1 _ rfl
        rw [Nat.add_zero] at k0
        rw [← Nat.add_assoc] at k1
        have H := Lib.hid (szWire_any x m wr hm0 hm1 hbm)
        clear hc hcl
        have HB := Lib.hid hbel
        clear hbel
        go_wp2_with fail
        refine H.out.mono ?_
        rintro e w1 ⟨r, rfl, hr, hb1⟩
        have hz := HB.out.trans (hb1.mono HB.out.size)
        clear hb1
        rcases hr with rfl | ⟨hr0, hr1⟩
        · go_wp2_with fail
          go_ret
          exact ⟨_, rfl, .inl rfl, hz⟩
        · have hm' : r ≤ 1048576 := by omega
          go_wp2_with fail
          go_roundw
          case rel => exact ⟨k + 1, r, by omega, by go_num, rfl, hr0, hm', by rw [HX.out]; omega, hz⟩
          case measure => simp [intOf]; omega
      · obtain rfl : k = l.length := by omega
        rw [List.take_length] at hE
        have HE := Lib.hid (show Left left (costL costBW l) m from .inr ⟨hm0, by unfold costL; omega⟩)
        clear hE
        go_wp2
        go_ret
        exact ⟨_, rfl, HE.out, hbel⟩

set_option maxRecDepth 100000 in
set_option maxHeartbeats 2000000 in
theorem szBigraph_any (nv sv ov iv : Value) (x : Big) (left : Int) (w : World) (h0 : 0 ≤ left) (h1 : left ≤ 1048576) (hn : RSl RBN 3 w nv x.2.1) (hs : RI w sv x.2.2.1) (ho : RSl RStr 1 w ov x.2.2.2.2.1) (hi : RSl RBW 2 w iv x.2.2.2.2.2) :
    Calls Try.prog 66 #[.agg #[.int .i64 x.1, nv, sv, .int .i64 x.2.2.2.1, ov, iv], .int .i64 left] w fun e w' => ∃ r, e = .returned (.int .i64 r) ∧ Left left (costBig x) r ∧ Below w.heap.size w w' := by
  have hb1 : ∀ o, Below w.heap.size w (w.alloc o) := fun o => (Below.refl _ _).alloc (Nat.le_refl _) o
  have HNV := Lib.hid (show ∀ W, Below w.heap.size w W → RSl RBN 3 W nv x.2.1 from fun W hb => hn.below RBN_keep hb)
  have HSV := Lib.hid (show ∀ W, Below w.heap.size w W → RI W sv x.2.2.1 from fun W hb => hs.below hb)
  have HOV := Lib.hid (show ∀ W, Below w.heap.size w W → RSl RStr 1 W ov x.2.2.2.2.1 from fun W hb => ho.below RStr_keep hb)
  have HIV := Lib.hid (show ∀ W, Below w.heap.size w W → RSl RBW 2 W iv x.2.2.2.2.2 from fun W hb => hi.below RBW_keep hb)
  have HB := Lib.hid hb1
  clear hn hs ho hi hb1
  go_enter Try.func66, Try.ntmps66
  go_wp2_with fail
  refine (szNodeS_any nv (x.2.1) left _ (by omega) (by omega) (HNV.out _ (HB.out _))).mono ?_
  rintro e w1 ⟨r1, rfl, hr1, hw1⟩
  have hz1 := ((HB.out _)).trans (hw1.mono ((HB.out _)).size)
  obtain ⟨bx, _⟩ := one_box hw1
  have q2 : w1.cell? ⟨w.heap.size, 2, none⟩ = some sv := cell_of_row _ _ _ _ _ _ bx
  have q4 : w1.cell? ⟨w.heap.size, 4, none⟩ = some ov := cell_of_row _ _ _ _ _ _ bx
  have q5 : w1.cell? ⟨w.heap.size, 5, none⟩ = some iv := cell_of_row _ _ _ _ _ _ bx
  clear bx
  clear hw1
  rcases hr1 with rfl | ⟨hp1, hs1⟩
  · go_wp2_with fail
    go_ret
    exact ⟨_, rfl, .inl rfl, hz1⟩
  · go_wp2_with fail
    refine (szIntS_left sv (x.2.2.1) r1 _ (by omega) (by omega) (HSV.out _ hz1)).mono ?_
    rintro e w2 ⟨r2, rfl, hr2, hw2⟩
    have hz2 := (hz1).trans (hw2.mono (hz1).size)
    have q4 := cell_below hw2 q4 (lt_of_cell q4)
    have q5 := cell_below hw2 q5 (lt_of_cell q5)
    clear hw2
    rcases hr2 with rfl | ⟨hp2, hs2⟩
    · go_wp2_with fail
      go_ret
      exact ⟨_, rfl, .inl rfl, hz2⟩
    · go_wp2_with fail
      refine (szStringS_any ov (x.2.2.2.2.1) r2 _ (by omega) (by omega) (HOV.out _ hz2)).mono ?_
      rintro e w3 ⟨r3, rfl, hr3, hw3⟩
      have hz3 := (hz2).trans (hw3.mono (hz2).size)
      have q5 := cell_below hw3 q5 (lt_of_cell q5)
      clear hw3
      rcases hr3 with rfl | ⟨hp3, hs3⟩
      · go_wp2_with fail
        go_ret
        exact ⟨_, rfl, .inl rfl, hz3⟩
      · go_wp2_with fail
        refine (szWireS_any iv (x.2.2.2.2.2) r3 _ (by omega) (by omega) (HIV.out _ hz3)).mono ?_
        rintro e w4 ⟨r4, rfl, hr4, hw4⟩
        have hz4 := (hz3).trans (hw4.mono (hz3).size)
        clear hw4
        rcases hr4 with rfl | ⟨hp4, hs4⟩
        · go_wp2_with fail
          go_ret
          exact ⟨_, rfl, .inl rfl, hz4⟩
        · have HE := Lib.hid (show Left left (costBig x) r4 from .inr ⟨hp4, by unfold costBig; omega⟩)
          go_wp2_with fail
          go_ret
          exact ⟨_, rfl, HE.out, hz4⟩

set_option maxRecDepth 100000 in
set_option maxHeartbeats 2000000 in
theorem szBigraphS_any (v : Value) (l : List Big) (left : Int) (w : World) (h0 : 0 ≤ left) (h1 : left ≤ 1048576) (hv : RSl RBig 6 w v l) :
    Calls Try.prog 32 #[v, .int .i64 left] w fun e w' => ∃ r, e = .returned (.int .i64 r) ∧ Left left (costL costBig l) r ∧ Below w.heap.size w w' := by
  have HV := Lib.hid (show ∀ W, Below w.heap.size w W → RSl RBig 6 W v l from fun W hb => hv.below RBig_keep hb)
  obtain ⟨A, c, rfl, hm⟩ := hv.form
  have hn' : (l.length : Int) ≤ 9223372036854775807 := by unfold maxLen at hm; omega
  clear hv hm
  by_cases hl : left - (l.length : Int) < 0
  · go_enter Try.func32, Try.ntmps32
    go_wp2
    go_ret
    exact ⟨_, rfl, .inl rfl, Below.refl _ _⟩
  · go_enter Try.func32, Try.ntmps32
    go_wp2
    go_loopw [1, 5] (fun lf i wr => ∃ (k : Nat) (m : Int), k ≤ l.length ∧ i = .int .i64 k ∧ lf = .int .i64 m ∧ 0 ≤ m ∧ m ≤ 1048576 ∧ m + ((l.take k).map costBig).sum = left - l.length ∧ Below w.heap.size w wr)
      (fun _ i _ => l.length - (intOf i).toNat)
    case atStart => exact ⟨0, _, Nat.zero_le _, rfl, rfl, by omega, by omega, by simp, Below.refl _ _⟩
    case round =>
      obtain ⟨k, m, hk, rfl, rfl, hm0, hm1, hE, hbel⟩ := hrel
      by_cases hlt : k < l.length
      · obtain ⟨b, o, c', cs, ev, hcl, hcr, hc⟩ := (HV.out wr hbel).at_ (by omega) (List.getElem?_eq_getElem hlt)
        cases ev
        have HX := Lib.hid (sum_next costBig l k _ (List.getElem?_eq_getElem hlt))
        generalize l[k] = x at *
        obtain ⟨nv, sv, ov, iv, rfl, hq1, hq2, hq3, hq4⟩ := hcr
        have k0 := hc 0 _ rfl
        have k1 := hc 1 _ rfl
        have k2 := hc 2 _ rfl
        have k3 := hc 3 _ rfl
        have k4 := hc 4 _ rfl
        have k5 := hc 5 _ rfl
        rw [Nat.add_zero] at k0
        rw [← Nat.add_assoc] at k1 k2 k3 k4 k5
        have H := Lib.hid (szBigraph_any nv sv ov iv x m wr hm0 hm1 hq1 hq2 hq3 hq4)
        clear hc hcl
        have HB := Lib.hid hbel
        clear hbel
        go_wp2_with fail
        refine H.out.mono ?_
        rintro e w1 ⟨r, rfl, hr, hb1⟩
        have hz := HB.out.trans (hb1.mono HB.out.size)
        clear hb1
        rcases hr with rfl | ⟨hr0, hr1⟩
        · go_wp2_with fail
          go_ret
          exact ⟨_, rfl, .inl rfl, hz⟩
        · have hm' : r ≤ 1048576 := by omega
          go_wp2_with fail
          go_roundw
          case rel => exact ⟨k + 1, r, by omega, by go_num, rfl, hr0, hm', by rw [HX.out]; omega, hz⟩
          case measure => simp [intOf]; omega
      · obtain rfl : k = l.length := by omega
        rw [List.take_length] at hE
        have HE := Lib.hid (show Left left (costL costBig l) m from .inr ⟨hm0, by unfold costL; omega⟩)
        clear hE
        go_wp2
        go_ret
        exact ⟨_, rfl, HE.out, hbel⟩

set_option maxHeartbeats 1000000 in
theorem szSystem_any (v : Value) (x : Sys) (left : Int) (w : World) (h0 : 0 ≤ left) (h1 : left ≤ 1048576) (hv : RSys w v x) :
    Calls Try.prog 9 #[v, .int .i64 left] w fun e w' => ∃ r, e = .returned (.int .i64 r) ∧ Left left (costSys x) r ∧ Below w.heap.size w w' := by
  obtain ⟨sv, tv, rfl, hs, ht⟩ := hv
  have hb1 : ∀ o, Below w.heap.size w (w.alloc o) := fun o => (Below.refl _ _).alloc (Nat.le_refl _) o
  have HSV := Lib.hid (show ∀ W, Below w.heap.size w W → RSl RBig 6 W sv x.states from fun W hb => hs.below RBig_keep hb)
  have HTV := Lib.hid (show ∀ W, Below w.heap.size w W → RA3 W tv x.steps from fun W hb => ht.below hb)
  have HB := Lib.hid hb1
  clear hs ht hb1
  go_enter Try.func9, Try.ntmps9
  go_wp2_with fail
  refine (szBigraphS_any sv x.states left _ (by omega) (by omega) (HSV.out _ (HB.out _))).mono ?_
  rintro e w1 ⟨r1, rfl, hr1, hw1⟩
  have hz1 := (HB.out _).trans (hw1.mono (HB.out _).size)
  obtain ⟨bx, _⟩ := one_box hw1
  have q1 : w1.cell? ⟨w.heap.size, 1, none⟩ = some tv := cell_of_row _ _ _ _ _ _ bx
  clear bx hw1
  rcases hr1 with rfl | ⟨hp1, hs1⟩
  · go_wp2_with fail
    go_ret
    exact ⟨_, rfl, .inl rfl, hz1⟩
  · go_wp2_with fail
    refine (szIntA3S_left tv x.steps r1 _ (by omega) (by omega) (HTV.out _ hz1)).mono ?_
    rintro e w2 ⟨r2, rfl, hr2, hw2⟩
    have hz2 := hz1.trans (hw2.mono hz1.size)
    clear hw2
    rcases hr2 with rfl | ⟨hp2, hs2⟩
    · go_wp2_with fail
      go_ret
      exact ⟨_, rfl, .inl rfl, hz2⟩
    · have HE := Lib.hid (show Left left (costSys x) r2 from .inr ⟨hp2, by unfold costSys; omega⟩)
      go_wp2_with fail
      go_ret
      exact ⟨_, rfl, HE.out, hz2⟩

end Go.Proofs.Ytlgdmafgbmnjdaa
