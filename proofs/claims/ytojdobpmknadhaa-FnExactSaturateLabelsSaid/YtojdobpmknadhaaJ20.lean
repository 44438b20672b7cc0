/- Labelled systems: the saturated system, and the quotient. Plain law: program and reference list the same. The ends of a state's steps with an action: the reference walked. -/
import Derived.Test.YtojdobpmknadhaaJ15
import Derived.Test.YtojdobpmknadhaaProg
import Derived.Test.YtojdobpmknadhaaJ12
import Derived.Test.YtojdobpmknadhaaJ7
import Derived.Test.YtojdobpmknadhaaJ8
set_option linter.unusedVariables false
namespace Go.Proofs.Ytojdobpmknadhaa

/-- Numbers of a second list put to a first one. -/
def unionI (a b : List Int) : List Int := b.foldl putI a
theorem union_fold : ∀ (b a : List Int), a.Pairwise (· < ·) → (unionI a b).Pairwise (· < ·) ∧ ∀ x, x ∈ unionI a b ↔ x ∈ a ∨ x ∈ b
  | [], a, h => ⟨h, fun x => by simp [unionI]⟩
  | y :: b, a, h => by
    obtain ⟨h1, h2⟩ := union_fold b (putI a y) (putI_sorted y h)
    refine ⟨h1, fun x => ?_⟩
    have := h2 x
    unfold unionI at this ⊢
    rw [List.foldl_cons, this, putI_mem, List.mem_cons]
    constructor
    · rintro ((h | h) | h)
      · exact .inl h
      · exact .inr (.inl h)
      · exact .inr (.inr h)
    · rintro (h | h | h)
      · exact .inl (.inl h)
      · exact .inl (.inr h)
      · exact .inr h
theorem union_of {a b o : List Int} (ha : a.Pairwise (· < ·)) (ho : o.Pairwise (· < ·)) (hm : ∀ x, x ∈ o ↔ x ∈ a ∨ x ∈ b) : o = unionI a b :=
  sorted_eq ho (union_fold b a ha).1 fun x => (hm x).trans ((union_fold b a ha).2 x).symm

def unionsI (sh : List (List Int)) (ts : List Int) (o : List Int) : List Int := ts.foldl (fun o t => unionI o (sh.getD t.toNat [])) o
theorem unions_fold (sh : List (List Int)) : ∀ (ts o : List Int), o.Pairwise (· < ·) → (unionsI sh ts o).Pairwise (· < ·) ∧ ∀ x, x ∈ unionsI sh ts o ↔ x ∈ o ∨ ∃ t ∈ ts, x ∈ sh.getD t.toNat []
  | [], o, h => ⟨h, fun x => by simp [unionsI]⟩
  | t :: ts, o, h => by
    obtain ⟨a1, a2⟩ := union_fold (sh.getD t.toNat []) o h
    obtain ⟨h1, h2⟩ := unions_fold sh ts _ a1
    refine ⟨h1, fun x => ?_⟩
    have := h2 x
    unfold unionsI at this ⊢
    rw [List.foldl_cons, this, a2 x]
    constructor
    · rintro ((h | h) | ⟨u, hu, h⟩)
      · exact .inl h
      · exact .inr ⟨t, by simp, h⟩
      · exact .inr ⟨u, by simp [hu], h⟩
    · rintro (h | ⟨u, hu, h⟩)
      · exact .inl (.inl h)
      · rcases List.mem_cons.1 hu with rfl | hu
        · exact .inl (.inr h)
        · exact .inr ⟨u, hu, h⟩
/-- The marks of a state: of all states to which silent ways lead. -/
def progShow (n : Nat) (sh : List (List Int)) (ss : List I3) (i : Nat) : List Int := unionsI sh (waysR n ss i) []
def silL (n : Nat) (ss : List I3) (i : Nat) : List Int := ((List.range n).filter fun j => silF n ss i j).map fun (j : Nat) => (j : Int)
def specShow (n : Nat) (sh : List (List Int)) (ss : List I3) (i : Nat) : List Int := unionsI sh (silL n ss i) []
theorem show_same {n : Nat} {sh : List (List Int)} {ss : List I3} (h : StepsN n ss) {i : Nat} (hi : i < n) : specShow n sh ss i = progShow n sh ss i := by
  obtain ⟨a1, a2⟩ := unions_fold sh (silL n ss i) [] List.Pairwise.nil
  obtain ⟨b1, b2⟩ := unions_fold sh (waysR n ss i) [] List.Pairwise.nil
  refine sorted_eq a1 b1 fun x => ?_
  show x ∈ unionsI sh (silL n ss i) [] ↔ x ∈ unionsI sh (waysR n ss i) []
  rw [a2 x, b2 x]
  simp only [List.not_mem_nil, false_or]
  constructor
  · rintro ⟨t, ht, hx⟩
    unfold silL at ht
    simp only [List.mem_map, List.mem_filter, List.mem_range] at ht
    obtain ⟨j, ⟨hj, hf⟩, rfl⟩ := ht
    exact ⟨(j : Int), (sil_iff h hi hj).1 hf, hx⟩
  · rintro ⟨t, ht, hx⟩
    obtain ⟨j, rfl, hj⟩ := ways_inN h hi t ht
    refine ⟨(j : Int), ?_, hx⟩
    unfold silL
    simp only [List.mem_map, List.mem_filter, List.mem_range]
    exact ⟨j, ⟨hj, (sil_iff h hi hj).2 ht⟩, rfl⟩

def satL (l : Lab) : Lab := ⟨(List.range l.shows.length).map (progShow l.shows.length l.shows l.steps), sortT (progSat l.shows.length l.steps)⟩
theorem satL_len (l : Lab) : (satL l).shows.length = l.shows.length := by simp [satL]
theorem prog_steps {n : Nat} {ss : List I3} (h : StepsN n ss) (ha : ∀ s ∈ ss, 0 ≤ s.2.1 ∧ s.2.1 < 8) : ∀ x ∈ progSat n ss, (∃ i j : Nat, x.1 = (i : Int) ∧ x.2.2 = (j : Int) ∧ i < n ∧ j < n) ∧ 0 ≤ x.2.1 ∧ x.2.1 < 8 := by
  intro x hx
  unfold progSat at hx
  simp only [List.mem_flatMap, List.mem_map, List.mem_filter, List.mem_range, List.mem_cons] at hx
  obtain ⟨i, hi, t, ht, h1 | ⟨s, ⟨hs, h1⟩, e, he, rfl⟩⟩ := hx
  · subst h1
    obtain ⟨j, rfl, hj⟩ := ways_inN h hi t ht
    exact ⟨⟨i, j, rfl, rfl, hi, hj⟩, by simp, by simp⟩
  · obtain ⟨u, v, hu, hv, hun, hvn⟩ := h s hs
    have h2 : s.2.2.toNat = v := by omega
    rw [h2] at he
    obtain ⟨j, rfl, hj⟩ := ways_inN h hvn e he
    exact ⟨⟨i, j, rfl, rfl, hi, hj⟩, ha s hs⟩
theorem satL_steps {l : Lab} (h : StepsN l.shows.length l.steps) (ha : ∀ s ∈ l.steps, 0 ≤ s.2.1 ∧ s.2.1 < 8) : StepsN (satL l).shows.length (satL l).steps ∧ ∀ s ∈ (satL l).steps, 0 ≤ s.2.1 ∧ s.2.1 < 8 := by
  rw [satL_len]
  constructor
  · intro s hs
    exact (prog_steps h ha s ((sortT_mem _ _).1 hs)).1
  · intro s hs
    exact (prog_steps h ha s ((sortT_mem _ _).1 hs)).2

/-! The quotient. -/

def isRep (l : Lab) (i : Nat) : Bool := (lastL l).getD i 0 == (i : Int)
def repsI (l : Lab) : List Int := ((List.range l.shows.length).filter (isRep l)).map fun (i : Nat) => (i : Int)
/-- The place of a state among those that are the least of their part. -/
def posR (l : Lab) (i : Nat) : Nat := ((List.range i).filter (isRep l)).length

theorem reps_sorted (l : Lab) : (repsI l).Pairwise (· < ·) := by
  unfold repsI
  rw [List.pairwise_map]
  exact List.Pairwise.imp (by intro a b h; omega) (List.pairwise_lt_range.filter _)
theorem last_rep (l : Lab) {i : Nat} (hi : i < l.shows.length) : ∃ k : Nat, (lastL l).getD i 0 = (k : Int) ∧ k < l.shows.length ∧ isRep l k = true := by
  obtain ⟨k, h1, h2, h3, _⟩ := parts_spec l l.shows.length hi
  have hk : k < l.shows.length := by omega
  refine ⟨k, h1, hk, ?_⟩
  unfold isRep
  rw [beq_iff_eq]
  have := (parts_iff l l.shows.length hk hi).2 h3
  unfold lastL
  rw [this, h1]
theorem reps_mem (l : Lab) (x : Int) : x ∈ repsI l ↔ x ∈ lastL l := by
  have hl : (lastL l).length = l.shows.length := parts_len l _
  unfold repsI
  simp only [List.mem_map, List.mem_filter, List.mem_range]
  constructor
  · rintro ⟨i, ⟨hi, hr⟩, rfl⟩
    unfold isRep at hr
    rw [beq_iff_eq] at hr
    rw [← hr]
    simp [List.getD, show i < (lastL l).length by omega]
  · intro hx
    obtain ⟨j, hj, e⟩ := List.getElem_of_mem hx
    obtain ⟨k, h1, h2, h3⟩ := last_rep l (i := j) (by omega)
    have : (lastL l).getD j 0 = x := by simp [List.getD, hj, e]
    exact ⟨k, ⟨h2, h3⟩, by rw [← h1, this]⟩
theorem range_at {p : Nat → Bool} : ∀ {n i : Nat}, i < n → p i = true → ((List.range n).filter p)[((List.range i).filter p).length]? = some i
  | 0, i, hi, _ => by omega
  | n + 1, i, hi, hp => by
    rw [List.range_succ, List.filter_append]
    by_cases h : i < n
    · have ih := range_at h hp
      rw [List.getElem?_append_left (List.getElem?_eq_some_iff.1 ih).1]
      exact ih
    · obtain rfl : i = n := by omega
      rw [List.getElem?_append_right (Nat.le_refl _), Nat.sub_self, List.filter_cons, if_pos hp]
      rfl
theorem reps_at (l : Lab) {i : Nat} (hi : i < l.shows.length) (hr : isRep l i = true) : (repsI l)[posR l i]? = some (i : Int) := by
  unfold repsI posR
  rw [List.getElem?_map, range_at hi hr]
  rfl
theorem reps_idx (l : Lab) {i : Nat} (hi : i < l.shows.length) (hr : isRep l i = true) : idxR (repsI l).length (fun k => (repsI l).getD k 0 == (i : Int)) = (posR l i : Int) := by
  have h := reps_at l hi hr
  obtain ⟨hl, e⟩ := List.getElem?_eq_some_iff.1 h
  refine idxR_some hl (fun j hj => ?_) ?_
  · have hs := (List.pairwise_iff_getElem.1 (reps_sorted l)) j (posR l i) (by omega) hl hj
    rw [e] at hs
    rw [beq_eq_false_iff_ne]
    simp [List.getD, show j < (repsI l).length by omega]
    omega
  · rw [beq_iff_eq]
    simp [List.getD, h]
theorem reps_no (l : Lab) {i : Nat} (hr : isRep l i = false) : idxR (repsI l).length (fun k => (repsI l).getD k 0 == (i : Int)) = -1 := by
  refine idxR_none fun j hj => ?_
  rw [beq_eq_false_iff_ne]
  intro e
  have : (i : Int) ∈ repsI l := by
    rw [← e]
    simp [List.getD, hj]
  unfold repsI at this
  simp only [List.mem_map, List.mem_filter, List.mem_range] at this
  obtain ⟨k, ⟨_, hk⟩, e⟩ := this
  obtain rfl : k = i := by omega
  rw [hr] at hk
  cases hk

def quoSteps (l : Lab) : List I3 := (l.steps.filter fun s => isRep l s.1.toNat).map fun s => ((posR l s.1.toNat : Int), s.2.1, (posR l ((lastL l).getD s.2.2.toNat 0).toNat : Int))
def quoL (l : Lab) : Lab := ⟨(repsI l).map fun i => l.shows.getD i.toNat [], sortT (quoSteps l)⟩

end Go.Proofs.Ytojdobpmknadhaa

set_option linter.unusedVariables false
namespace Go.Proofs.Ytojdobpmknadhaa
open Go.RowKit

set_option maxRecDepth 100000 in
set_option maxHeartbeats 4000000 in
theorem l11Next_any (v : Value) (l : Lab) (p q : Int) (w : World) (hs : SmallLab l) (hv : RLab w v l) :
    Calls Try.prog 82 #[v, .int .i64 p, .int .i64 q] w fun e w' => ∃ r, e = .returned r ∧ w'.ownsRow w.heap.size 3 1 r (nextA l.steps p q).length (ints (nextA l.steps p q)) ∧ Below w.heap.size w w' := by
  obtain ⟨i0, hi, hz0, hz1, hz2⟩ := info_parts info_ci
  obtain ⟨sv, tv, rfl, hsv, htv⟩ := hv
  have hn := hs.2.1
  obtain ⟨A, c, vs, rfl, _, _, _, _⟩ := hsv
  have htv' := htv
  obtain ⟨B, d, rfl, _, _⟩ := htv
  have HV := Lib.hid (show ∀ W, Below w.heap.size w W → RA3 W (.slice B l.steps.length d) l.steps from fun W hb => htv'.below hb)
  clear htv' hs
  have hb0 : Below w.heap.size w (w.alloc (.cells #[.slice A l.shows.length c, .slice B l.steps.length d] 27)) := (Below.refl _ _).alloc (Nat.le_refl _) _
  have hbx := (heap_alloc_old (w.alloc (.cells #[.slice A l.shows.length c, .slice B l.steps.length d] 27)) (.cells #[] 3) (by simp)).trans (heap_alloc_new w (.cells #[.slice A l.shows.length c, .slice B l.steps.length d] 27))
  have HBX := Lib.hid hbx
  have hown0 := World.ownsRow_made (e := 3) (size := 1) (w.alloc (.cells #[.slice A l.shows.length c, .slice B l.steps.length d] 27)) #[] 0 (Nat.le_refl _) (Nat.zero_le _) rfl
  rw [World.size_alloc] at hown0
  have HOWN := Lib.hid hown0
  have HB0 := Lib.hid (hb0.alloc hb0.size (.cells #[] 3))
  clear hbx hown0 hb0
  go_enter Try.func82, Try.ntmps82
  go_wp2_with fail
  go_loopw [7, 8] (fun u i wr => ∃ k : Nat, k ≤ l.steps.length ∧ i = .int .i64 k ∧ wr.ownsRow (w.heap.size + 1) 3 1 u (nextA (l.steps.take k) p q).length (ints (nextA (l.steps.take k) p q)) ∧ Below w.heap.size w wr ∧ wr.heap[w.heap.size]? = some (.cells #[.slice A l.shows.length c, .slice B l.steps.length d] 27))
    (fun _ i _ => l.steps.length - (intOf i).toNat)
  case atStart => exact ⟨0, Nat.zero_le _, rfl, HOWN.out, HB0.out, HBX.out⟩
  case round =>
    clear HOWN HB0 HBX
    obtain ⟨k, hk, rfl, hown, hbel, hbx⟩ := hrel
    obtain ⟨AO, cO, rfl, hown⟩ := owns_form hown
    have hsz := hbel.size
    have hlt0 := (Array.getElem?_eq_some_iff.1 hbx).1
    have x1 : wr.cell? ⟨w.heap.size, 1, none⟩ = some (.slice B l.steps.length d) := cell_of_row _ _ _ _ _ _ hbx
    by_cases hlt : k < l.steps.length
    · obtain ⟨b, o, c', e, h0, h1, h2⟩ := (HV.out wr hbel).at_ (List.getElem?_eq_getElem hlt)
      cases e
      have hnx := nextA_take p q hlt
      have hln := nextA_len l.steps p q k
      have HO := Lib.hid hown
      have HBE := Lib.hid hbel
      generalize l.steps[k] = s at *
      generalize nextA (l.steps.take k) p q = lk at *
      have b0 : (0 : Int) ≤ (k : Int) := by omega
      have b1 : (k : Int) < (l.steps.length : Int) := by omega
      have hA : Below wr.heap.size wr (wr.alloc (.cells #[.int .i64 s.1, .int .i64 s.2.1, .int .i64 s.2.2] 51)) := (Below.refl _ _).alloc (Nat.le_refl _) _
      have hbA := hbel.trans (hA.mono hbel.size)
      have HOA := Lib.hid (hown.alloc (.cells #[.int .i64 s.1, .int .i64 s.2.1, .int .i64 s.2.2] 51))
      have HBA := Lib.hid hbA
      have HBXA := Lib.hid ((heap_alloc_old wr (.cells #[.int .i64 s.1, .int .i64 s.2.1, .int .i64 s.2.2] 51) hlt0).trans hbx)
      have hszA := hbA.size
      clear hown hbel hA hbA hbx
      cases hp : ((s.1 == p) && (s.2.1 == q))
      · rw [hp, if_neg Bool.false_ne_true] at hnx
        have HN := Lib.hid hnx
        clear hnx
        cases hp1 : (s.1 == p)
        · go_wp2_with fail
          go_roundw
          case rel => exact ⟨k + 1, by omega, by go_num, by rw [HN.out]; exact HOA.out, HBA.out, HBXA.out⟩
          case measure => simp [intOf]; omega
        · rw [hp1, Bool.true_and] at hp
          go_wp2_with fail
          go_roundw
          case rel => exact ⟨k + 1, by omega, by go_num, by rw [HN.out]; exact HOA.out, HBA.out, HBXA.out⟩
          case measure => simp [intOf]; omega
      · rw [hp, if_pos rfl] at hnx
        have HN := Lib.hid hnx
        rw [Bool.and_eq_true] at hp
        obtain ⟨hp1, hp2⟩ := hp
        clear hnx
        go_wp2_with (at_builtin; refine wpList_append_own _ rfl _ _ 53 rfl (w.heap.size + 1) 3 i0 (.int .i64 0) 1 8 Try.underlying53 hi hz0 hz1 hz2 rfl (by decide) _ _ _ rfl (HOA.out.alloc _) ⟨wr.heap.size + 1, 0, none⟩ 1 1 [.int .i64 s.2.2] rfl rfl ?c1 ?c2 ?c3 ?c4 ?c5 ?_)
        case c1 => intro j u hj; match j, hj with | 0, hj => (simp at hj; subst hj; simp [Addr.add])
        case c2 => intro u hu; simp at hu; subst hu; rfl
        case c3 => unfold maxLen; omega
        case c4 => omega
        case c5 => simp; omega
        intro v2 w2 hown2 hgrow2 _
        have hints : ints lk ++ [.int .i64 s.2.2] = ints (nextA (l.steps.take (k + 1)) p q) := by rw [HN.out]; simp [ints]
        have hlen : lk.length + 1 = (nextA (l.steps.take (k + 1)) p q).length := by rw [HN.out]; simp
        rw [hints, hlen] at hown2
        have HO2 := Lib.hid hown2
        have HG2 := Lib.hid ((HBA.out.alloc hszA _).grown hgrow2 (by simp; omega) (fun q hq => by have := (HO.out.lt q hq).1; omega))
        have HBX2 := Lib.hid ((hgrow2.block w.heap.size (by simp; omega) (fun e => by have := (HO.out.lt _ e.symm).1; omega)).trans ((heap_alloc_old _ _ (by simp; omega)).trans HBXA.out))
        clear hown2 hgrow2 hints hlen
        go_wp2_with fail
        go_roundw
        case rel => exact ⟨k + 1, by omega, by go_num, HO2.out, HG2.out, HBX2.out⟩
        case measure => simp [intOf]; omega
    · obtain rfl : k = l.steps.length := by omega
      rw [List.take_length] at hown ⊢
      have HO := Lib.hid (owns_mono hown (Nat.le_succ w.heap.size))
      have HBE := Lib.hid hbel
      clear hown hbel hbx
      go_wp2_with fail
      go_ret
      exact ⟨_, rfl, HO.out, HBE.out⟩

end Go.Proofs.Ytojdobpmknadhaa
