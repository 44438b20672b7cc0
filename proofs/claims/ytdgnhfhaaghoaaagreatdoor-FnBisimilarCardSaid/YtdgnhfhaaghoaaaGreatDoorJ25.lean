/- slices.Grow of nil and slices.Concat at []int: library walked. Labelled systems: silent ways. Plain law: the reference's tables and the program's searches tell the same ways, and the same saturated system. -/
import Derived.Test.YtdgnhfhaaghoaaaGreatDoorProg
import Derived.Test.YtdgnhfhaaghoaaaGreatDoorJ2
import Derived.Lib.AppendZeros
import Derived.Test.YtdgnhfhaaghoaaaGreatDoorJ9
import Derived.Test.YtdgnhfhaaghoaaaGreatDoorJ10
set_option linter.unusedSimpArgs false
set_option linter.unusedVariables false
namespace Go.Proofs.YtdgnhfhaaghoaaaGreatDoor
open Go.RowKit

/-- A slice of slices of one-cell elements, as read. -/
def RVS (w : World) (v : Value) (yss : List (List Value)) : Prop :=
  ∃ A c vs, v = .slice A yss.length c ∧ vs.length = yss.length ∧ Cells w A vs ∧ ∀ (i : Nat) u ys, vs[i]? = some u → yss[i]? = some ys → ∃ A1 c1, u = .slice A1 ys.length c1 ∧ Cells w A1 ys

theorem RVS.below {w w' : World} {v : Value} {yss : List (List Value)} (h : RVS w v yss) (hb : Below w.heap.size w w') : RVS w' v yss := by
  obtain ⟨A, c, vs, e, hl, hc, hi⟩ := h
  refine ⟨A, c, vs, e, hl, hc.below hb, fun i u ys h1 h2 => ?_⟩
  obtain ⟨A1, c1, e1, h3⟩ := hi i u ys h1 h2
  exact ⟨A1, c1, e1, h3.below hb⟩

/-- The cells of the first k slices. -/
def flatTo (yss : List (List Value)) (k : Nat) : List Value := (yss.take k).flatten
theorem flatTo_zero (yss : List (List Value)) : flatTo yss 0 = [] := by simp [flatTo]
theorem flatTo_all (yss : List (List Value)) : flatTo yss yss.length = yss.flatten := by simp [flatTo]
theorem flatTo_next {yss : List (List Value)} {k : Nat} (h : k < yss.length) : flatTo yss (k + 1) = flatTo yss k ++ yss[k] := by
  unfold flatTo
  rw [List.take_succ_eq_append_getElem h, List.flatten_append]
  simp
theorem flatTo_le {yss : List (List Value)} {k : Nat} : (flatTo yss k).length ≤ yss.flatten.length := by
  have := congrArg List.length (congrArg List.flatten (List.take_append_drop k yss))
  rw [List.flatten_append, List.length_append] at this
  unfold flatTo
  omega
theorem owns_prefix {w : World} {B g : Nat} {e : TypeId} {Z : Array Value} {cap : Nat} (hg : w.heap[g]? = some (.cells Z e)) (hB : B ≤ g) (hZ : Z.size = cap) (hm : cap ≤ maxLen) : w.ownsRow B e 1 (.slice (some ⟨g, 0, none⟩) 0 cap) 0 [] :=
  ⟨rfl, .inr ⟨g, cap, Z, rfl, hB, hg, Nat.zero_le _, hm, by rw [hZ, Nat.mul_one], by simp⟩⟩

theorem info_gI : (Tryz.prog.info? 3).map (fun i => (i.zero, i.size, i.bytes)) = some (some (Value.int .i64 0), 1, 8) := by kernel_rfl

set_option maxRecDepth 100000 in
set_option maxHeartbeats 4000000 in
theorem growI_any (n : Nat) (w : World) (h : n ≤ 1000000) :
    Calls Tryz.prog 177 #[.slice none 0 0, .int .i64 n] w fun e w' => ∃ v, e = .returned v ∧ w'.ownsRow w.heap.size 3 1 v 0 [] ∧ Below w.heap.size w w' := by
  obtain ⟨i0, hi, hz0, hz1, hz2⟩ := info_parts info_gI
  by_cases hn : n = 0
  · subst hn
    go_enter Tryz.func177, Tryz.ntmps177
    go_wp2_with fail
    go_ret
    exact ⟨_, rfl, World.ownsRow_nil _ _ _ _, Below.refl _ _⟩
  have happ := Lib.run_append_nil_zeros (P := Tryz.prog) w 30 3 30 3 i0 (Value.int .i64 0) .i64 .i64 Tryz.underlying30 Tryz.underlying3 hi hz0 n (by omega) (by omega) (by omega) (by rw [hz2]; omega)
  have hcap1 := grownCap_ge w n 0 3
  have hcap2 := grownCap_le_maxLen w n 0 3 (by unfold maxLen; omega)
  generalize grownCap w n 0 3 = cap at *
  generalize hZ : (Builtin.zeroCells (Value.int .i64 0).cells n ++ Builtin.zeroCells (Value.int .i64 0).cells (cap - n)) = Z at happ
  have hZs : Z.size = cap := by rw [← hZ]; simp [size_zeroCells, Value.cells]; omega
  have hrow := owns_prefix (heap_alloc_new w.drew (.cells Z 3)) (B := w.heap.size) (Nat.le_refl _) hZs hcap2
  have HR := Lib.hid (show ((w.alloc (.cells Z 3)).drew).ownsRow w.heap.size 3 1 (.slice (some ⟨w.heap.size, 0, none⟩) 0 cap) 0 [] from hrow)
  have HB := Lib.hid (show Below w.heap.size w (w.alloc (.cells Z 3)).drew from (Below.refl _ w).drew.alloc (Nat.le_refl _) _)
  have hc0 : (0 : Int) ≤ (cap : Int) := by omega
  clear hZ hrow
  go_enter Tryz.func177, Tryz.ntmps177
  go_wp2_with (at_builtin; refine Lib.wpList_append_run _ rfl _ _ _ _ rfl _ _ rfl rfl _ _ happ ?_)
  go_ret
  exact ⟨_, rfl, HR.out, HB.out⟩

set_option maxRecDepth 100000 in
set_option maxHeartbeats 8000000 in
theorem concatI_any (v : Value) (yss : List (List Value)) (w : World) (hn : yss.length ≤ 1000) (hs : yss.flatten.length ≤ 1000000) (h1 : ∀ u ∈ yss.flatten, u.oneCell' = true) (hv : RVS w v yss) :
    Calls Tryz.prog 152 #[v] w fun e w' => ∃ r, e = .returned r ∧ w'.ownsRow w.heap.size 3 1 r yss.flatten.length yss.flatten ∧ Below w.heap.size w w' := by
  obtain ⟨i0, hi, hz0, hz1, hz2⟩ := info_parts info_gI
  have HV := Lib.hid (show ∀ W, Below w.heap.size w W → RVS W v yss from fun W hb => hv.below hb)
  have H1 := Lib.hid h1
  obtain ⟨A, c, vs, rfl, hvl, hc, hrow⟩ := hv
  clear h1
  go_enter Tryz.func152, Tryz.ntmps152
  go_wp2_with fail
  go_loop [3, 11] (fun z i => ∃ k : Nat, k ≤ yss.length ∧ i = .int .i64 k ∧ z = .int .i64 (flatTo yss k).length) (fun _ i => yss.length - (intOf i).toNat)
  case atStart => exact ⟨0, Nat.zero_le _, rfl, by rw [flatTo_zero]; rfl⟩
  case round =>
    obtain ⟨k, hk, rfl, rfl⟩ := hrel
    have hle := flatTo_le (yss := yss) (k := k)
    by_cases hlt : k < yss.length
    · have hku : k < vs.length := by omega
      obtain ⟨b, o, rfl, hcc⟩ := hc.at_ hku
      have hck := hcc k _ (List.getElem?_eq_getElem hku)
      obtain ⟨A1, c1, e1, _⟩ := hrow k _ _ (List.getElem?_eq_getElem hku) (List.getElem?_eq_getElem hlt)
      rw [e1] at hck
      have hnx := congrArg List.length (flatTo_next hlt)
      rw [List.length_append] at hnx
      have hle2 := flatTo_le (yss := yss) (k := k + 1)
      have HNX := Lib.hid hnx
      have hl2 : (flatTo yss k).length + yss[k].length ≤ 1000000 := by omega
      clear hcc hrow hc HV H1 hnx hle2 e1
      generalize yss[k].length = q at *
      generalize (flatTo yss k).length = p at *
      have hp : ¬ ((p : Int) + (q : Int) < 0) := by omega
      go_wp2_with fail
      go_round
      case rel => exact ⟨k + 1, by omega, by go_num, by rw [HNX.out]; go_num⟩
      case measure => simp [intOf]; omega
    · obtain rfl : k = yss.length := by omega
      rw [flatTo_all]
      have HGR := Lib.hid (growI_any yss.flatten.length w hs)
      have HLE := Lib.hid (fun k => flatTo_le (yss := yss) (k := k))
      clear hc hrow hle
      generalize hFL : yss.flatten.length = FL at *
      have HFL := Lib.hid hFL
      clear hFL
      go_wp2_with fail
      refine HGR.out.mono ?_
      rintro e w1 ⟨u, rfl, hu, hb1⟩
      have HU := Lib.hid hu
      have HB1 := Lib.hid hb1
      clear hu hb1
      go_wp2_with fail
      go_loopw [6, 27] (fun u i wr => ∃ k : Nat, k ≤ yss.length ∧ i = .int .i64 k ∧ wr.ownsRow w.heap.size 3 1 u (flatTo yss k).length (flatTo yss k) ∧ Below w.heap.size w wr)
        (fun _ i _ => yss.length - (intOf i).toNat)
      case atStart => exact ⟨0, Nat.zero_le _, rfl, by rw [flatTo_zero]; exact HU.out, HB1.out⟩
      case round =>
        clear HU HB1
        obtain ⟨k, hk, rfl, hown, hbel⟩ := hrel
        obtain ⟨AU, cU, rfl, hown⟩ := owns_form hown
        have hle := HLE.out k
        by_cases hlt : k < yss.length
        · obtain ⟨A', c', vs', e, hvl', hcB, hrow⟩ := HV.out wr hbel
          cases e
          obtain ⟨b, o, rfl, hcb⟩ := hcB.at_ (k := k) (by omega)
          have hck := hcb k _ (List.getElem?_eq_getElem (by omega))
          obtain ⟨A3, c3, e3, hc3⟩ := hrow k _ _ (List.getElem?_eq_getElem (by omega)) (List.getElem?_eq_getElem hlt)
          rw [e3] at hck
          have hnx := flatTo_next hlt
          have hone : ∀ u ∈ yss[k], u.oneCell' = true := fun u hu => H1.out u (List.mem_flatten.2 ⟨_, List.getElem_mem hlt, hu⟩)
          have hle2 := HLE.out (k + 1)
          rw [hnx, List.length_append] at hle2
          have HNX := Lib.hid hnx
          have HO := Lib.hid hown
          have HB := Lib.hid hbel
          have HC3 := Lib.hid hc3
          have HONE := Lib.hid hone
          have hl2 : (flatTo yss k).length + yss[k].length ≤ 1000000 := by omega
          clear hcB hcb hrow e3 hc3 hnx hown hbel hone hle2 hle
          generalize yss[k] = ys at *
          generalize flatTo yss k = fk at *
          cases A3 with
          | none =>
            have h0 : ys = [] := cells_none HC3.out
            subst h0
            go_wp2_with (at_builtin; refine wpList_append_none_cap rfl _ _ 30 rfl w.heap.size 3 i0 1 Tryz.underlying30 hi _ _ _ _ rfl HO.out rfl ?_)
            go_roundw
            case rel => exact ⟨k + 1, by omega, by go_num, by rw [HNX.out, List.append_nil]; exact HO.out, HB.out⟩
            case measure => simp [intOf]; omega
          | some ad =>
            go_wp2_with (at_builtin; refine wpList_append_own _ rfl _ _ 30 rfl w.heap.size 3 i0 (Value.int .i64 0) 1 8 Tryz.underlying30 hi hz0 hz1 hz2 rfl (by decide) _ _ _ rfl HO.out ad ys.length c3 ys rfl (by simp) (cells_add HC3.out) HONE.out (by unfold maxLen; omega) (by omega) HB.out.size ?_; intro v2 w2 hown2 hgrow2 _)
            rw [← List.length_append, ← HNX.out] at hown2
            have HO2 := Lib.hid hown2
            have HG := Lib.hid (HB.out.grown hgrow2 HB.out.size (fun q hq => (HO.out.lt q hq).1))
            clear hown2 hgrow2
            go_wp2_with fail
            go_roundw
            case rel => exact ⟨k + 1, by omega, by go_num, HO2.out, HG.out⟩
            case measure => simp [intOf]; omega
        · obtain rfl : k = yss.length := by omega
          have HO := Lib.hid hown
          have HB := Lib.hid hbel
          clear hown hbel
          go_wp2_with fail
          go_ret
          refine ⟨_, rfl, ?_, HB.out⟩
          rw [show yss.flatten = flatTo yss yss.length from (flatTo_all yss).symm]
          exact HO.out

end Go.Proofs.YtdgnhfhaaghoaaaGreatDoor

set_option linter.unusedVariables false
namespace Go.Proofs.YtdgnhfhaaghoaaaGreatDoor

/-- The silent steps. -/
def silS (ss : List I3) : List I3 := ss.filter fun s => s.2.1 == 0
def wInit (ss : List I3) (i j : Nat) : Bool := (i == j) || (silS ss).any fun s => (s.1 == (i : Int)) && (s.2.2 == (j : Int))
def wRound (k : Nat) (f : Nat → Nat → Bool) (i j : Nat) : Bool := f i j || (f i k && f k j)
def wAll (f : Nat → Nat → Bool) : Nat → Nat → Nat → Bool
  | 0 => f
  | m + 1 => wRound m (wAll f m)

def ThroughT (m : Nat) (f : Nat → Nat → Bool) : Prop := ∀ c, c < m → ∀ i j, f i c = true → f c j = true → f i j = true
theorem wRound_iff {k : Nat} {f : Nat → Nat → Bool} {i j : Nat} : wRound k f i j = true ↔ f i j = true ∨ (f i k = true ∧ f k j = true) := by
  simp [wRound]
theorem wRound_row {k : Nat} {f : Nat → Nat → Bool} {j : Nat} : wRound k f k j = f k j := by
  rw [Bool.eq_iff_iff, wRound_iff]
  exact ⟨fun h => h.elim id (fun h => h.2), .inl⟩
theorem wRound_col {k : Nat} {f : Nat → Nat → Bool} {i : Nat} : wRound k f i k = f i k := by
  rw [Bool.eq_iff_iff, wRound_iff]
  exact ⟨fun h => h.elim id (fun h => h.1), .inl⟩
theorem through_next {m : Nat} {f : Nat → Nat → Bool} (h : ThroughT m f) : ThroughT (m + 1) (wRound m f) := by
  intro c hc i j h1 h2
  by_cases e : c = m
  · subst e
    rw [wRound_col] at h1
    rw [wRound_row] at h2
    rw [wRound_iff]
    exact .inr ⟨h1, h2⟩
  · have hc : c < m := by omega
    have H := h c hc
    rw [wRound_iff] at h1 h2 ⊢
    rcases h1 with h1 | ⟨h1, h1'⟩ <;> rcases h2 with h2 | ⟨h2, h2'⟩
    · exact .inl (H i j h1 h2)
    · exact .inr ⟨H i m h1 h2, h2'⟩
    · exact .inr ⟨h1, H m j h1' h2⟩
    · exact .inr ⟨h1, h2'⟩
theorem wAll_through (f : Nat → Nat → Bool) : ∀ m, ThroughT m (wAll f m)
  | 0 => fun c hc => by omega
  | m + 1 => through_next (wAll_through f m)
theorem wAll_sub (f : Nat → Nat → Bool) {i j : Nat} (h : f i j = true) : ∀ m, wAll f m i j = true
  | 0 => h
  | m + 1 => by rw [wAll, wRound_iff]; exact .inl (wAll_sub f h m)
theorem wAll_in {f : Nat → Nat → Bool} {R : Nat → Nat → Prop} (h0 : ∀ i j, f i j = true → R i j) (ht : ∀ i j k, R i j → R j k → R i k) : ∀ m i j, wAll f m i j = true → R i j
  | 0, i, j, h => h0 i j h
  | m + 1, i, j, h => by
    rw [wAll, wRound_iff] at h
    rcases h with h | h
    · exact wAll_in h0 ht m i j h
    · exact ht i m j (wAll_in h0 ht m i m h.1) (wAll_in h0 ht m m j h.2)

/-- A round of the reference's, written into its own table: the pairs before place (i, j), row by row, are done. -/
def wPart (k : Nat) (f : Nat → Nat → Bool) (i0 j0 : Nat) (i j : Nat) : Bool := if i < i0 ∨ (i = i0 ∧ j < j0) then wRound k f i j else f i j
theorem wPart_row {k : Nat} {f : Nat → Nat → Bool} {i0 j0 j : Nat} : wPart k f i0 j0 k j = f k j := by
  unfold wPart; split
  · exact wRound_row
  · rfl
theorem wPart_col {k : Nat} {f : Nat → Nat → Bool} {i0 j0 i : Nat} : wPart k f i0 j0 i k = f i k := by
  unfold wPart; split
  · exact wRound_col
  · rfl
theorem wPart_next {k : Nat} {f : Nat → Nat → Bool} {i0 j0 : Nat} (i j : Nat) : wPart k f i0 (j0 + 1) i j = if i = i0 ∧ j = j0 then (wPart k f i0 j0 i0 j0 || (wPart k f i0 j0 i0 k && wPart k f i0 j0 k j0)) else wPart k f i0 j0 i j := by
  rw [wPart_row, wPart_col]
  by_cases e : i = i0 ∧ j = j0
  · obtain ⟨rfl, rfl⟩ := e
    rw [if_pos ⟨rfl, rfl⟩]
    unfold wPart
    rw [if_pos (by omega), if_neg (by omega)]
    rfl
  · rw [if_neg e]
    unfold wPart
    by_cases h : i < i0 ∨ (i = i0 ∧ j < j0)
    · rw [if_pos h, if_pos (by omega)]
    · rw [if_neg h, if_neg (by omega)]

section
variable {n : Nat} {ss : List I3}
theorem silS_mem {s : I3} : s ∈ silS ss ↔ s ∈ ss ∧ s.2.1 = 0 := by simp [silS]
theorem silS_n (h : StepsN n ss) : StepsN n (silS ss) := fun s hs => h s (silS_mem.1 hs).1

/-- The states to which silent ways lead. -/
def waysR (n : Nat) (ss : List I3) (i : Nat) : List Int := reachR (silS ss) (i : Int) n
theorem ways_is (h : StepsN n ss) {i : Nat} (hi : i < n) : IsReach (silS ss) i (waysR n ss i) := reachR_is (silS_n h) hi
theorem ways_inN (h : StepsN n ss) {i : Nat} (hi : i < n) : InN n (waysR n ss i) := reachR_inN (silS_n h) hi n
theorem ways_trans (h : StepsN n ss) {i j : Nat} (hi : i < n) (hj : j < n) {x : Int} (h1 : (j : Int) ∈ waysR n ss i) (h2 : x ∈ waysR n ss j) : x ∈ waysR n ss i :=
  (ways_is h hj).2.2 (· ∈ waysR n ss i) h1 (ways_is h hi).2.1 x h2

def silF (n : Nat) (ss : List I3) : Nat → Nat → Bool := wAll (wInit ss) n
theorem sil_iff (h : StepsN n ss) {i j : Nat} (hi : i < n) (hj : j < n) : silF n ss i j = true ↔ (j : Int) ∈ waysR n ss i := by
  constructor
  · intro hf
    have := wAll_in (f := wInit ss) (R := fun i j => i < n → (j < n ∧ (j : Int) ∈ waysR n ss i)) (fun i j h0 hi => ?_) (fun i j k h1 h2 hi => ?_) n i j hf hi
    · exact this.2
    · unfold wInit at h0
      rw [Bool.or_eq_true] at h0
      rcases h0 with h0 | h0
      · have : i = j := by simpa using h0
        subst this
        exact ⟨hi, (ways_is h hi).1⟩
      · rw [List.any_eq_true] at h0
        obtain ⟨s, hs, e⟩ := h0
        simp only [Bool.and_eq_true, beq_iff_eq] at e
        obtain ⟨a, b, ha, hb, han, hbn⟩ := silS_n h s hs
        refine ⟨by omega, ?_⟩
        rw [← e.2]
        exact (ways_is h hi).2.1 s hs (by rw [e.1]; exact (ways_is h hi).1)
    · obtain ⟨hj, h3⟩ := h1 hi
      obtain ⟨hk, h4⟩ := h2 hj
      exact ⟨hk, ways_trans h hi hj h3 h4⟩
  · intro hm
    have := (ways_is h hi).2.2 (fun x => ∃ j : Nat, x = (j : Int) ∧ j < n ∧ silF n ss i j = true) ⟨i, rfl, hi, wAll_sub _ (by simp [wInit]) n⟩ (fun s hs hc => ?_) (j : Int) hm
    · obtain ⟨q, e, _, hq⟩ := this
      obtain rfl : j = q := by omega
      exact hq
    · obtain ⟨u, e, hu, hf⟩ := hc
      obtain ⟨a, b, ha, hb, han, hbn⟩ := silS_n h s hs
      obtain rfl : u = a := by omega
      refine ⟨b, hb, hbn, wAll_through (wInit ss) n u hu i b hf (wAll_sub _ ?_ n)⟩
      unfold wInit
      rw [Bool.or_eq_true]
      right
      rw [List.any_eq_true]
      exact ⟨s, hs, by simp [ha, hb]⟩

/-- The reference's tables of an action: half, and whole. -/
def halfF (n : Nat) (ss : List I3) (a : Int) (i k : Nat) : Bool := ss.any fun s => (s.2.1 == a) && silF n ss i s.1.toNat && (s.2.2 == (k : Int))
def weakF (n : Nat) (ss : List I3) (a : Int) (i j : Nat) : Bool := (List.range n).any fun k => halfF n ss a i k && silF n ss k j
def tabF (n : Nat) (ss : List I3) (a : Nat) (i j : Nat) : Bool := if a = 0 then silF n ss i j else weakF n ss (a : Int) i j
theorem weak_iff (h : StepsN n ss) {a : Int} {i j : Nat} (hi : i < n) (hj : j < n) : weakF n ss a i j = true ↔ ∃ s ∈ ss, s.2.1 = a ∧ s.1 ∈ waysR n ss i ∧ (j : Int) ∈ waysR n ss s.2.2.toNat := by
  unfold weakF
  rw [List.any_eq_true]
  constructor
  · rintro ⟨k, hk, e⟩
    rw [Bool.and_eq_true] at e
    have hk := List.mem_range.1 hk
    obtain ⟨e1, e2⟩ := e
    unfold halfF at e1
    rw [List.any_eq_true] at e1
    obtain ⟨s, hs, e1⟩ := e1
    simp only [Bool.and_eq_true, beq_iff_eq] at e1
    obtain ⟨u, v, hu, hv, hun, hvn⟩ := h s hs
    have h1 : s.1.toNat = u := by omega
    have h2 : s.2.2.toNat = k := by omega
    rw [h1] at e1
    refine ⟨s, hs, e1.1.1, ?_, ?_⟩
    · rw [hu]; exact (sil_iff h hi hun).1 e1.1.2
    · rw [h2]; exact (sil_iff h hk hj).1 e2
  · rintro ⟨s, hs, e1, e2, e3⟩
    obtain ⟨u, v, hu, hv, hun, hvn⟩ := h s hs
    have h1 : s.1.toNat = u := by omega
    have h2 : s.2.2.toNat = v := by omega
    rw [h2] at e3
    refine ⟨v, List.mem_range.2 hvn, ?_⟩
    rw [Bool.and_eq_true]
    refine ⟨?_, (sil_iff h hvn hj).2 e3⟩
    unfold halfF
    rw [List.any_eq_true]
    refine ⟨s, hs, ?_⟩
    rw [h1, (sil_iff h hi hun).2 (by rw [← hu]; exact e2), e1, hv]
    simp

/-- The steps of the saturated system, as the reference lists them. -/
def specSat (n : Nat) (ss : List I3) : List I3 :=
  (List.range n).flatMap fun i => (List.range 8).flatMap fun a => ((List.range n).filter fun j => tabF n ss a i j).map fun (j : Nat) => ((i : Int), (a : Int), (j : Int))
/-- .. and as the program gathers them. -/
def progSat (n : Nat) (ss : List I3) : List I3 :=
  (List.range n).flatMap fun i => (waysR n ss i).flatMap fun t => ((i : Int), (0 : Int), t) :: (ss.filter fun s => (s.1 == t) && !(s.2.1 == 0)).flatMap fun s => (waysR n ss s.2.2.toNat).map fun e => ((i : Int), s.2.1, e)

theorem pair_flat {α β : Type} {R : β → β → Prop} {f : α → List β} : ∀ {l : List α}, (∀ a ∈ l, (f a).Pairwise R) → l.Pairwise (fun a b => ∀ x ∈ f a, ∀ y ∈ f b, R x y) → (l.flatMap f).Pairwise R
  | [], _, _ => List.Pairwise.nil
  | a :: l, h1, h2 => by
    rw [List.flatMap_cons, List.pairwise_append]
    rw [List.pairwise_cons] at h2
    refine ⟨h1 a (by simp), pair_flat (fun b hb => h1 b (List.mem_cons_of_mem _ hb)) h2.2, fun x hx y hy => ?_⟩
    obtain ⟨b, hb, hy⟩ := List.mem_flatMap.1 hy
    exact h2.1 b hb x hx y hy
theorem spec_sorted (n : Nat) (ss : List I3) : (specSat n ss).Pairwise (fun a b => ltT a b = true) := by
  unfold specSat
  refine pair_flat (fun i _ => pair_flat (fun a _ => ?_) ?_) ?_
  · rw [List.pairwise_map]
    refine List.Pairwise.imp ?_ (List.pairwise_lt_range.filter _)
    intro x y hxy
    rw [ltT_iff]
    dsimp only
    omega
  · refine List.Pairwise.imp ?_ List.pairwise_lt_range
    intro a b hab x hx y hy
    obtain ⟨j, _, rfl⟩ := List.mem_map.1 hx
    obtain ⟨k, _, rfl⟩ := List.mem_map.1 hy
    rw [ltT_iff]
    dsimp only
    omega
  · refine List.Pairwise.imp ?_ List.pairwise_lt_range
    intro i k hik x hx y hy
    obtain ⟨a, _, hx⟩ := List.mem_flatMap.1 hx
    obtain ⟨b, _, hy⟩ := List.mem_flatMap.1 hy
    obtain ⟨j, _, rfl⟩ := List.mem_map.1 hx
    obtain ⟨m, _, rfl⟩ := List.mem_map.1 hy
    rw [ltT_iff]
    dsimp only
    omega
theorem spec_prog (h : StepsN n ss) (ha : ∀ s ∈ ss, 0 ≤ s.2.1 ∧ s.2.1 < 8) : specSat n ss = sortT (progSat n ss) := by
  refine sortT_of (spec_sorted n ss) fun x => ?_
  unfold specSat progSat
  simp only [List.mem_flatMap, List.mem_map, List.mem_filter, List.mem_range, List.mem_cons]
  constructor
  · rintro ⟨i, hi, a, ha8, j, ⟨hj, ht⟩, rfl⟩
    unfold tabF at ht
    split at ht
    · rename_i e
      subst e
      exact ⟨i, hi, (j : Int), (sil_iff h hi hj).1 ht, .inl rfl⟩
    · rename_i e
      obtain ⟨s, hs, h1, h2, h3⟩ := (weak_iff h hi hj).1 ht
      refine ⟨i, hi, s.1, h2, .inr ⟨s, ⟨hs, ?_⟩, (j : Int), h3, by rw [h1]⟩⟩
      have : s.2.1 ≠ 0 := by omega
      simp [this]
  · rintro ⟨i, hi, t, ht, h1 | ⟨s, ⟨hs, h1⟩, e, he, rfl⟩⟩
    · subst h1
      obtain ⟨j, rfl, hj⟩ := ways_inN h hi t ht
      refine ⟨i, hi, 0, by omega, j, ⟨hj, ?_⟩, rfl⟩
      unfold tabF
      rw [if_pos rfl]
      exact (sil_iff h hi hj).2 ht
    · simp only [Bool.and_eq_true, beq_iff_eq, Bool.not_eq_true', beq_eq_false_iff_ne, ne_eq] at h1
      obtain ⟨u, v, hu, hv, hun, hvn⟩ := h s hs
      have h2 : s.2.2.toNat = v := by omega
      rw [h2] at he
      obtain ⟨j, rfl, hj⟩ := ways_inN h hvn e he
      have hs8 := ha s hs
      obtain ⟨a, hae⟩ := Int.eq_ofNat_of_zero_le hs8.1
      refine ⟨i, hi, a, by omega, j, ⟨hj, ?_⟩, by rw [hae]⟩
      unfold tabF
      rw [if_neg (by omega)]
      refine (weak_iff h hi hj).2 ⟨s, hs, hae, by rw [h1.1]; exact ht, by rw [h2]; exact he⟩
end

end Go.Proofs.YtdgnhfhaaghoaaaGreatDoor
