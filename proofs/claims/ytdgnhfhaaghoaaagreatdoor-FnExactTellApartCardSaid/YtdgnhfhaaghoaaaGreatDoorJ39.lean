/- Tables of truth values: read, written; l11Table walked. -/
import Derived.Test.YtdgnhfhaaghoaaaGreatDoorProg
import Derived.Test.YtdgnhfhaaghoaaaGreatDoorJ11
import Derived.Test.YtdgnhfhaaghoaaaGreatDoorJ12
set_option linter.unusedVariables false
namespace Go.Proofs.YtdgnhfhaaghoaaaGreatDoor
open Go.RowKit

def offs (n : Nat) : List Value := List.replicate n (.bool false)
theorem offs_len (n : Nat) : (offs n).length = n := by simp [offs]

/-- A table that is being laid: k rows of n times no. -/
def TB0 (w : World) (B : Nat) (u : Value) (k n : Nat) : Prop :=
  ∃ vs : List Value, w.ownsRow B 79 1 u k vs ∧ (∀ (i : Nat) v, vs[i]? = some v → w.ownsRow B 4 1 v n (offs n)) ∧
    (∀ (i j : Nat) v v' b, i < j → vs[i]? = some v → vs[j]? = some v' → v.ownBlock = some b → v'.ownBlock ≠ some b)

theorem TB0.push {w w1 w2 : World} {B k n : Nat} {u u2 r : Value} {vs : List Value} {o : Obj}
    (h1 : w.ownsRow B 79 1 u k vs) (h2 : ∀ (i : Nat) v, vs[i]? = some v → w.ownsRow B 4 1 v n (offs n))
    (h3 : ∀ (i j : Nat) v v' b, i < j → vs[i]? = some v → vs[j]? = some v' → v.ownBlock = some b → v'.ownBlock ≠ some b)
    (hB : B ≤ w.heap.size) (hr : w1.ownsRow w.heap.size 4 1 r n (offs n)) (hb : Below w.heap.size w w1)
    (ho : w2.ownsRow B 79 1 u2 (k + 1) (vs ++ [r])) (hg : (w1.alloc o).grownBy w2 u.ownBlock) : TB0 w2 B u2 (k + 1) n := by
  have hu1 : (w1.alloc o).ownsRow B 79 1 u k vs := (owns_below h1 hb (Nat.le_refl _)).alloc _
  refine ⟨vs ++ [r], ho, fun i v hv => ?_, fun i j v v' b hij hv hv' hvb => ?_⟩
  · rcases Nat.lt_trichotomy i vs.length with hi | hi | hi
    · rw [List.getElem?_append_left hi] at hv
      have ha : (w1.alloc o).ownsRow B 4 1 v n (offs n) := (owns_below (h2 i v hv) hb (Nat.le_refl _)).alloc _
      exact owns_grown' ha hg (fun g hgv => owns_apart' ha hu1 (by decide) g hgv)
    · subst hi
      rw [List.getElem?_append_right (Nat.le_refl _), Nat.sub_self] at hv
      simp at hv
      subst hv
      have ha : (w1.alloc o).ownsRow B 4 1 r n (offs n) := (owns_mono hr hB).alloc _
      exact owns_grown' ha hg (fun g hgv => owns_apart' ha hu1 (by decide) g hgv)
    · rw [List.getElem?_eq_none (by simp; omega)] at hv
      cases hv
  · have hj : j ≤ vs.length := by
      have := (List.getElem?_eq_some_iff.1 hv').1
      simp at this
      omega
    rw [List.getElem?_append_left (by omega)] at hv
    rcases Nat.lt_or_eq_of_le hj with hj | hj
    · rw [List.getElem?_append_left hj] at hv'
      exact h3 i j v v' b hij hv hv' hvb
    · subst hj
      rw [List.getElem?_append_right (Nat.le_refl _), Nat.sub_self] at hv'
      simp at hv'
      subst hv'
      have a1 := ((h2 i v hv).lt b hvb).2
      intro e
      have a2 := (hr.lt b e).1
      omega

/-- A table of n times n truth values: the rows' blocks are R, their capacities C. -/
structure TabB (w : World) (B g : Nat) (R C : Nat → Nat) (n : Nat) (f : Nat → Nat → Bool) : Prop where
  outer : ∀ i, i < n → w.cell? ⟨g, i, none⟩ = some (.slice (some ⟨R i, 0, none⟩) n (C i))
  inner : ∀ i j, i < n → j < n → w.cell? ⟨R i, j, none⟩ = some (.bool (f i j)) ∧ w.frozen? ⟨R i, j, none⟩ = false
  lowg : B ≤ g
  low : ∀ i, i < n → B ≤ R i ∧ R i ≠ g
  inj : ∀ i j, i < n → j < n → R i = R j → i = j

def setN (f : Nat → Nat → Bool) (i j : Nat) (b : Bool) : Nat → Nat → Bool := fun x y => if x = i ∧ y = j then b else f x y

section
variable {w w' : World} {B g n : Nat} {R C : Nat → Nat} {f : Nat → Nat → Bool}
theorem TabB.below {B2 : Nat} (h : TabB w B g R C n f) (hb : Below B2 w w') (hB : w.heap.size ≤ B2) : TabB w' B g R C n f := by
  refine ⟨fun i hi => ?_, fun i j hi hj => ?_, h.lowg, h.low, h.inj⟩
  · have := h.outer i hi
    exact cell_below hb this (by have := lt_of_cell this; omega)
  · obtain ⟨h1, h2⟩ := h.inner i j hi hj
    have hl := lt_of_cell h1
    exact ⟨cell_below hb h1 (by omega), (World.frozen?_of_block (a := ⟨R i, j, none⟩) (hb.block _ (by dsimp only at hl ⊢; omega))).trans h2⟩
theorem TabB.set (h : TabB w B g R C n f) {i j : Nat} (hi : i < n) (hj : j < n) (b : Bool) : TabB (w.setCell ⟨R i, j, none⟩ (.bool b)) B g R C n (setN f i j b) := by
  refine ⟨fun x hx => ?_, fun x y hx hy => ?_, h.lowg, h.low, h.inj⟩
  · rw [World.cell?_setCell_other _ _ _ _ (by intro e; simp only [Addr.mk.injEq, and_true] at e; exact (h.low i hi).2 e.1)]
    exact h.outer x hx
  · obtain ⟨h1, h2⟩ := h.inner x y hx hy
    rw [World.frozen?_setCell]
    refine ⟨?_, h2⟩
    unfold setN
    by_cases e : x = i ∧ y = j
    · rw [if_pos e]
      obtain ⟨rfl, rfl⟩ := e
      exact World.cell?_setCell_same w _ _ h1
    · rw [if_neg e, World.cell?_setCell_other _ _ _ _ (by intro e2; simp only [Addr.mk.injEq, and_true] at e2; exact e ⟨(h.inj i x hi hx e2.1).symm, e2.2.symm⟩)]
      exact h1
theorem TabB.mono {B' : Nat} (h : TabB w B g R C n f) (hB : B' ≤ B) : TabB w B' g R C n f :=
  ⟨h.outer, h.inner, Nat.le_trans hB h.lowg, fun i hi => ⟨Nat.le_trans hB (h.low i hi).1, (h.low i hi).2⟩, h.inj⟩
theorem TabB.congr {f' : Nat → Nat → Bool} (h : TabB w B g R C n f) (hf : ∀ i j, i < n → j < n → f i j = f' i j) : TabB w B g R C n f' :=
  ⟨h.outer, fun i j hi hj => by rw [← hf i j hi hj]; exact h.inner i j hi hj, h.lowg, h.low, h.inj⟩
end

def capOf : Value → Nat
  | .slice _ _ c => c
  | _ => 0
theorem TB0.tab {w : World} {B n : Nat} {u : Value} (h : TB0 w B u n n) (hn : 1 ≤ n) : ∃ g c R C, u = .slice (some ⟨g, 0, none⟩) n c ∧ TabB w B g R C n (fun _ _ => false) := by
  obtain ⟨vs, h1, h2, h3⟩ := h
  have hvl : vs.length = n := by have := h1.1; omega
  rcases h1.2 with ⟨_, e⟩ | ⟨g, c, cur, rfl, hBg, hg, a1, a2, a3, a4⟩
  · omega
  have hrow : ∀ i, i < n → ∃ v : Value, vs[i]? = some v ∧ w.ownsRow B 4 1 v n (offs n) ∧ ∃ r c', v = .slice (some ⟨r, 0, none⟩) n c' := fun i hi => by
    have hv : vs[i]? = some (vs[i]'(by omega)) := List.getElem?_eq_getElem (by omega)
    have ho := h2 i _ hv
    refine ⟨_, hv, ho, ?_⟩
    rcases ho.2 with ⟨_, e⟩ | ⟨r, c', cur', e, _⟩
    · omega
    · exact ⟨r, c', e⟩
  have hR : ∀ i, i < n → ∃ r c', vs[i]? = some (.slice (some ⟨r, 0, none⟩) n c') ∧ ((vs[i]?.bind Value.ownBlock).getD 0) = r ∧ capOf (vs[i]?.getD undef) = c' := fun i hi => by
    obtain ⟨v, hv, _, r, c', rfl⟩ := hrow i hi
    exact ⟨r, c', hv, by rw [hv]; rfl, by rw [hv]; rfl⟩
  refine ⟨g, c, fun i => (vs[i]?.bind Value.ownBlock).getD 0, fun i => capOf (vs[i]?.getD undef), rfl, ⟨fun i hi => ?_, fun i j hi hj => ?_, hBg, fun i hi => ?_, fun i j hi hj e => ?_⟩⟩
  · obtain ⟨r, c', hv, e1, e2⟩ := hR i hi
    rw [e1, e2, cell_of_row w g i cur _ _ hg, ← hv, ← a4, List.getElem?_take, if_pos (by omega)]
    simp
  · obtain ⟨r, c', hv, e1, e2⟩ := hR i hi
    rw [e1]
    have ho := h2 i _ hv
    have := ho.cellAt j (by omega)
    rw [this, offs, List.getElem?_replicate, if_pos hj]
    exact ⟨rfl, ho.frozenAt _⟩
  · obtain ⟨r, c', hv, e1, e2⟩ := hR i hi
    rw [e1]
    have ho := h2 i _ hv
    refine ⟨(ho.lt r rfl).1, fun e => ?_⟩
    exact owns_apart' ho h1 (by decide) r rfl (by rw [e]; rfl)
  · obtain ⟨r, c', hv, e1, e2⟩ := hR i hi
    obtain ⟨r', c'', hv', e1', e2'⟩ := hR j hj
    rw [e1, e1'] at e
    subst e
    rcases Nat.lt_trichotomy i j with hh | hh | hh
    · exact absurd rfl (h3 i j _ _ r hh hv hv' rfl)
    · exact hh
    · exact absurd rfl (h3 j i _ _ r hh hv' hv rfl)

theorem info_tb : (Tryz.prog.info? 4).map (fun i => (i.zero, i.size, i.bytes)) = some (some (.bool false), 1, 1) := by kernel_rfl
theorem info_tbs : (Tryz.prog.info? 79).map (fun i => (i.zero, i.size, i.bytes)) = some (some (.slice none 0 0), 1, 24) := by kernel_rfl
theorem made_offs (n : Nat) : (madeCells (Value.bool false).cells (n * 1)).toList = offs n := by
  show (madeCells #[_] _).toList = _
  rw [toList_madeCells_one, Nat.mul_one]
  rfl

set_option maxRecDepth 100000 in
set_option maxHeartbeats 4000000 in
theorem l11Table_any (n : Nat) (w : World) (h0 : 1 ≤ n) (h1 : n ≤ 40) :
    Calls Tryz.prog 111 #[.int .i64 n] w fun e w' => ∃ g c R C, e = .returned (.slice (some ⟨g, 0, none⟩) n c) ∧ TabB w' w.heap.size g R C n (fun _ _ => false) ∧ Below w.heap.size w w' := by
  obtain ⟨i0, hi, hz0, hz1, hz2⟩ := info_parts info_tb
  obtain ⟨j0, hj, hy0, hy1, hy2⟩ := info_parts info_tbs
  go_enter Tryz.func111, Tryz.ntmps111
  go_wp2_with fail
  go_loopw [3, 4] (fun u i wr => ∃ k : Nat, k ≤ n ∧ i = .int .i64 k ∧ TB0 wr w.heap.size u k n ∧ Below w.heap.size w wr)
    (fun _ i _ => n - (intOf i).toNat)
  case atStart => exact ⟨0, Nat.zero_le _, rfl, ⟨[], World.ownsRow_made w #[] 0 (Nat.le_refl _) (Nat.zero_le _) rfl, fun i v h => by simp at h, fun i j v v' b _ h => by simp at h⟩, (Below.refl _ _).alloc (Nat.le_refl _) _⟩
  case round =>
    obtain ⟨k, hk, rfl, htab, hbel⟩ := hrel
    by_cases hlt : k < n
    · obtain ⟨vs, t1, t2, t3⟩ := htab
      obtain ⟨AU, cU, rfl, t1⟩ := owns_form t1
      have T1 := Lib.hid t1
      have T2 := Lib.hid t2
      have T3 := Lib.hid t3
      have HB := Lib.hid hbel
      have hwr := hbel.size
      clear t1 t2 t3 hbel
      go_wp2_with (first | (at_make; refine wpList_make_full _ rfl _ _ 79 rfl wr.heap.size 4 i0 _ 1 Tryz.underlying79 hi hz0 hz1 _ _ _ _ n rfl rfl rfl rfl (by rw [hz2]; omega) (by unfold maxLen; omega) (Nat.le_refl _) ?_; intro w1 hown1 hgrow1; rw [made_offs] at hown1; have hb1 : Below wr.heap.size wr w1 := (Below.refl _ _).grown hgrow1 (Nat.le_refl _) (by simp); have HR := Lib.hid hown1; have HB1 := Lib.hid hb1; have HO1 := Lib.hid ((owns_below T1.out hb1 (Nat.le_refl _)).alloc (.cells #[.slice (some ⟨wr.heap.size, 0, none⟩) n n] 79)); have hs1 := hb1.size; clear hown1 hgrow1 hb1) | (at_builtin; refine wpList_append_own _ rfl _ _ 117 rfl w.heap.size 79 j0 (.slice none 0 0) 1 24 Tryz.underlying117 hj hy0 hy1 hy2 rfl (by decide) _ _ _ rfl HO1.out ⟨w1.heap.size, 0, none⟩ 1 1 [.slice (some ⟨wr.heap.size, 0, none⟩) n n] rfl rfl ?c1 ?c2 ?c3 ?c4 ?c5 ?_))
      case c1 => exact new_cell1 _ _ _ rfl
      case c2 => intro u hu; simp at hu; subst hu; rfl
      case c3 => unfold maxLen; omega
      case c4 => omega
      case c5 => simp; omega
      intro v2 w2 hown2 hgrow2 _
      have HP := Lib.hid (TB0.push T1.out T2.out T3.out hwr HR.out HB1.out hown2 hgrow2)
      have HG := Lib.hid (((HB.out.trans (HB1.out.mono hwr)).alloc (Nat.le_trans hwr hs1) _).grown hgrow2 (by simp; omega) (fun q hq => (HO1.out.lt q hq).1))
      clear hown2 hgrow2
      go_wp2_with fail
      go_roundw
      case rel => exact ⟨k + 1, by omega, by go_num, HP.out, HG.out⟩
      case measure => simp [intOf]; omega
    · obtain rfl : k = n := by omega
      obtain ⟨g, c, R, C, rfl, ht⟩ := htab.tab h0
      have HT := Lib.hid ht
      have HB := Lib.hid hbel
      clear htab ht hbel
      go_wp2_with fail
      go_ret
      exact ⟨g, c, R, C, rfl, HT.out, HB.out⟩

end Go.Proofs.YtdgnhfhaaghoaaaGreatDoor
