/- Labelled systems: what the program's saturation has made so far: plain, and in memory. -/
import Derived.Test.YtdgnhfhaaghoaaaGreatDoorProg
import Derived.Test.YtdgnhfhaaghoaaaGreatDoorJ44
set_option linter.unusedSimpArgs false
set_option linter.unusedVariables false
namespace Go.Proofs.YtdgnhfhaaghoaaaGreatDoor
open Go.RowKit

def endsP (n : Nat) (ss : List I3) (i : Int) (s : I3) : List I3 := (waysR n ss s.2.2.toNat).map fun e => (i, s.2.1, e)
def isOut (t : Int) (s : I3) : Bool := (s.1 == t) && !(s.2.1 == 0)
def stepP (n : Nat) (ss : List I3) (i : Int) (t : Int) (k : Nat) : List I3 := ((ss.take k).filter (isOut t)).flatMap (endsP n ss i)
def wayP (n : Nat) (ss : List I3) (i : Int) (ts : List Int) : List I3 := ts.flatMap fun t => (i, 0, t) :: stepP n ss i t ss.length
def preP (n : Nat) (ss : List I3) (i : Nat) : List I3 := (List.range i).flatMap fun (i : Nat) => wayP n ss (i : Int) (waysR n ss i)
theorem preP_all (n : Nat) (ss : List I3) : preP n ss n = progSat n ss := by
  unfold preP progSat wayP stepP
  simp only [List.take_length]
  rfl
def stA4 (n : Nat) (ss : List I3) (i m : Nat) : List I3 := preP n ss i ++ wayP n ss (i : Int) ((waysR n ss i).take m)
def stB4 (n : Nat) (ss : List I3) (i m k : Nat) : List I3 := stA4 n ss i m ++ ((i : Int), (0 : Int), (waysR n ss i).getD m 0) :: stepP n ss (i : Int) ((waysR n ss i).getD m 0) k
def stC4 (n : Nat) (ss : List I3) (i m k e : Nat) : List I3 := stB4 n ss i m k ++ (endsP n ss (i : Int) (ss.getD k (0, 0, 0))).take e
theorem stA4_zero (n : Nat) (ss : List I3) (i : Nat) : stA4 n ss i 0 = preP n ss i := by simp [stA4, wayP]
theorem stB4_zero (n : Nat) (ss : List I3) (i m : Nat) : stB4 n ss i m 0 = stA4 n ss i m ++ [((i : Int), (0 : Int), (waysR n ss i).getD m 0)] := by simp [stB4, stepP]
theorem stC4_zero (n : Nat) (ss : List I3) (i m k : Nat) : stC4 n ss i m k 0 = stB4 n ss i m k := by simp [stC4]
theorem stC4_next {n : Nat} {ss : List I3} {i m k e : Nat} (h : e < (waysR n ss (ss.getD k (0, 0, 0)).2.2.toNat).length) : stC4 n ss i m k (e + 1) = stC4 n ss i m k e ++ [((i : Int), (ss.getD k (0, 0, 0)).2.1, (waysR n ss (ss.getD k (0, 0, 0)).2.2.toNat).getD e 0)] := by
  unfold stC4
  rw [List.append_assoc]
  congr 1
  have hl : e < (endsP n ss (i : Int) (ss.getD k (0, 0, 0))).length := by unfold endsP; rw [List.length_map]; exact h
  rw [List.take_succ_eq_append_getElem hl]
  congr 2
  generalize ss.getD k (0, 0, 0) = s at *
  have e0 : (waysR n ss s.2.2.toNat).getD e 0 = (waysR n ss s.2.2.toNat)[e] := by simp [List.getD, h]
  rw [e0]
  exact List.getElem_map _
theorem stepP_next {n : Nat} {ss : List I3} {i t : Int} {k : Nat} (h : k < ss.length) : stepP n ss i t (k + 1) = stepP n ss i t k ++ if isOut t (ss.getD k (0, 0, 0)) then endsP n ss i (ss.getD k (0, 0, 0)) else [] := by
  unfold stepP
  have e : ss.getD k (0, 0, 0) = ss[k] := by simp [List.getD, h]
  rw [List.take_succ_eq_append_getElem h, List.filter_append, List.flatMap_append, e, List.filter_cons]
  cases hh : isOut t ss[k]
  · simp
  · simp
theorem stC4_all {n : Nat} {ss : List I3} {i m k : Nat} (h : k < ss.length) (ho : isOut ((waysR n ss i).getD m 0) (ss.getD k (0, 0, 0)) = true) : stC4 n ss i m k (waysR n ss (ss.getD k (0, 0, 0)).2.2.toNat).length = stB4 n ss i m (k + 1) := by
  unfold stC4 stB4
  rw [stepP_next h, ho, if_pos rfl, List.take_of_length_le (by unfold endsP; rw [List.length_map]; exact Nat.le_refl _)]
  simp
theorem stB4_skip {n : Nat} {ss : List I3} {i m k : Nat} (h : k < ss.length) (ho : isOut ((waysR n ss i).getD m 0) (ss.getD k (0, 0, 0)) = false) : stB4 n ss i m (k + 1) = stB4 n ss i m k := by
  unfold stB4
  rw [stepP_next h, ho]
  simp
theorem stB4_all {n : Nat} {ss : List I3} {i m : Nat} (h : m < (waysR n ss i).length) : stB4 n ss i m ss.length = stA4 n ss i (m + 1) := by
  unfold stB4 stA4 wayP
  have e : (waysR n ss i).getD m 0 = (waysR n ss i)[m] := by simp [List.getD, h]
  rw [List.take_succ_eq_append_getElem h, List.flatMap_append, e]
  simp
theorem stA4_all (n : Nat) (ss : List I3) (i : Nat) : stA4 n ss i (waysR n ss i).length = preP n ss (i + 1) := by
  unfold stA4 preP
  rw [List.take_length, List.range_succ, List.flatMap_append]
  simp
theorem ways_len {n : Nat} {ss : List I3} (h : StepsN n ss) (hn : n ≤ 40) (j : Nat) (hj : j < n) : (waysR n ss j).length ≤ 40 :=
  Nat.le_trans (pigeon n ((reachR_sorted (silS ss) (j : Int) n).imp (fun h => by omega)) (ways_inN h hj)) hn
theorem endsP_len {n : Nat} {ss : List I3} {i : Int} {s : I3} (h : StepsN n ss) (hn : n ≤ 40) (hs : s.2.2.toNat < n) : (endsP n ss i s).length ≤ 40 := by
  unfold endsP
  rw [List.length_map]
  exact ways_len h hn _ hs
theorem steps_to {n : Nat} {ss : List I3} (h : StepsN n ss) {s : I3} (hs : s ∈ ss) : s.2.2.toNat < n := by
  obtain ⟨u, v, _, hv, _, hvn⟩ := h s hs
  omega
theorem stepP_len {n : Nat} {ss : List I3} {i t : Int} {k : Nat} (h : StepsN n ss) (hn : n ≤ 40) : (stepP n ss i t k).length ≤ ss.length * 40 := by
  unfold stepP
  have h1 := flat_le (l := (ss.take k).filter (isOut t)) (f := endsP n ss i) (M := 40) fun s hs => endsP_len h hn (steps_to h (List.mem_of_mem_take (List.mem_filter.1 hs).1))
  have h2 := List.length_filter_le (isOut t) (ss.take k)
  rw [List.length_take] at h2
  have h3 : ((ss.take k).filter (isOut t)).length * 40 ≤ ss.length * 40 := Nat.mul_le_mul_right _ (by omega)
  omega
theorem wayP_len {n : Nat} {ss : List I3} {i : Int} {ts : List Int} (h : StepsN n ss) (hn : n ≤ 40) (ht : ts.length ≤ 40) : (wayP n ss i ts).length ≤ 40 * (1 + ss.length * 40) := by
  unfold wayP
  have h1 := flat_le (l := ts) (f := fun t => (i, (0 : Int), t) :: stepP n ss i t ss.length) (M := 1 + ss.length * 40) fun t _ => by
    rw [List.length_cons]
    have := stepP_len (i := i) (t := t) (k := ss.length) h hn
    omega
  have h2 : ts.length * (1 + ss.length * 40) ≤ 40 * (1 + ss.length * 40) := Nat.mul_le_mul_right _ ht
  omega
theorem preP_len {n : Nat} {ss : List I3} {i : Nat} (h : StepsN n ss) (hn : n ≤ 40) (hi : i ≤ n) : (preP n ss i).length ≤ 40 * (40 * (1 + ss.length * 40)) := by
  unfold preP
  have h1 := flat_le (l := List.range i) (f := fun (i : Nat) => wayP n ss (i : Int) (waysR n ss i)) (M := 40 * (1 + ss.length * 40)) fun j hj => wayP_len h hn (ways_len h hn j (by have := List.mem_range.1 hj; omega))
  rw [List.length_range] at h1
  have h2 : i * (40 * (1 + ss.length * 40)) ≤ 40 * (40 * (1 + ss.length * 40)) := Nat.mul_le_mul_right _ (by omega)
  omega
theorem stC4_len {n : Nat} {ss : List I3} {i m k e : Nat} (h : StepsN n ss) (hn : n ≤ 40) (hi : i < n) (hs : ss.length ≤ 16777216) : (stC4 n ss i m k e).length ≤ 1500000000000 := by
  unfold stC4 stB4 stA4
  have h1 := preP_len h hn (Nat.le_of_lt hi)
  have h2 := wayP_len (i := (i : Int)) (ts := (waysR n ss i).take m) h hn (by rw [List.length_take]; have := ways_len h hn i hi; omega)
  have h3 := stepP_len (i := (i : Int)) (t := (waysR n ss i).getD m 0) (k := k) h hn
  have h4 := endsP_len (i := (i : Int)) (s := ss.getD k (0, 0, 0)) h hn (by
    by_cases hk : k < ss.length
    · have e : ss.getD k (0, 0, 0) = ss[k] := by simp [List.getD, hk]
      rw [e]
      exact steps_to h (List.getElem_mem hk)
    · have e : ss.getD k (0, 0, 0) = (0, 0, 0) := by simp [List.getD, hk]
      rw [e]
      show (0 : Int).toNat < n
      simp
      omega)
  simp only [List.length_append, List.length_cons, List.length_take]
  omega
theorem stB4_len {n : Nat} {ss : List I3} {i m k : Nat} (h : StepsN n ss) (hn : n ≤ 40) (hi : i < n) (hs : ss.length ≤ 16777216) : (stB4 n ss i m k).length ≤ 1500000000000 := by
  rw [← stC4_zero]
  exact stC4_len h hn hi hs
theorem stA4_len {n : Nat} {ss : List I3} {i m : Nat} (h : StepsN n ss) (hn : n ≤ 40) (hi : i < n) (hs : ss.length ≤ 16777216) : (stA4 n ss i m).length ≤ 1500000000000 := by
  have := stB4_len (m := m) (k := 0) h hn hi hs
  rw [stB4_zero, List.length_append] at this
  omega

theorem unionsI_len {sh : List (List Int)} {M : Nat} (hM : ∀ xs ∈ sh, xs.length ≤ M) : ∀ (ts o : List Int), (unionsI sh ts o).length ≤ o.length + ts.length * M
  | [], o => by simp [unionsI]
  | t :: ts, o => by
    have ih := unionsI_len hM ts (unionI o (sh.getD t.toNat []))
    have h1 := fold_putU_len (sh.getD t.toNat []) o
    have h2 : (sh.getD t.toNat []).length ≤ M := by
      by_cases h : t.toNat < sh.length
      · have e : sh.getD t.toNat [] = sh[t.toNat] := by simp [List.getD, h]
        rw [e]
        exact hM _ (List.getElem_mem h)
      · have e : sh.getD t.toNat [] = [] := by simp [List.getD, h]
        rw [e]
        simp
    have e : unionsI sh (t :: ts) o = unionsI sh ts (unionI o (sh.getD t.toNat [])) := rfl
    rw [e, List.length_cons, Nat.succ_mul]
    unfold unionI at ih ⊢
    omega
theorem unionsI_snoc (sh : List (List Int)) (ts o : List Int) (t : Int) : unionsI sh (ts ++ [t]) o = unionI (unionsI sh ts o) (sh.getD t.toNat []) := by
  unfold unionsI
  rw [List.foldl_append]
  rfl

/-! In memory. -/

/-- A table whose rows' blocks lie below z. -/
def TRL (w : World) (B z : Nat) (u : Value) (xss : List (List Int)) : Prop :=
  ∃ vs : List Value, w.ownsRow B 30 1 u xss.length vs ∧ (∀ (i : Nat) v xs, vs[i]? = some v → xss[i]? = some xs → w.ownsRow B 3 1 v xs.length (ints xs)) ∧
    (∀ (i j : Nat) v v' b, i < j → vs[i]? = some v → vs[j]? = some v' → v.ownBlock = some b → v'.ownBlock ≠ some b) ∧ ∀ (i : Nat) v b, vs[i]? = some v → v.ownBlock = some b → b < z

section
variable {w w1 w2 w' : World} {B z z' : Nat} {u u2 r : Value} {l : List (List Int)} {x : List Int}
theorem TRL.rows (h : TRL w B z u l) : TRows w B u l := by
  obtain ⟨vs, a, b, c, _⟩ := h
  exact ⟨vs, a, b, c⟩
theorem TRL.wide (h : TRL w B z u l) (hz : z ≤ z') : TRL w B z' u l := by
  obtain ⟨vs, a, b, c, d⟩ := h
  exact ⟨vs, a, b, c, fun i v b h1 h2 => Nat.lt_of_lt_of_le (d i v b h1 h2) hz⟩
theorem TRL.below {B2 : Nat} (h : TRL w B z u l) (hb : Below B2 w w') (hB : w.heap.size ≤ B2) : TRL w' B z u l := by
  obtain ⟨vs, h1, h2, h3, h4⟩ := h
  exact ⟨vs, owns_below h1 hb hB, fun i v xs a b => owns_below (h2 i v xs a b) hb hB, h3, h4⟩
theorem TRL.kept_ne {S : Nat → Prop} (h : TRL w B z u l) (hk : Kept S w w') (h1 : ∀ (v : Value) n xs, w.ownsRow B 30 1 v n xs → ∀ g, v.ownBlock = some g → ¬ S g) (h2 : ∀ (v : Value) n xs, w.ownsRow B 3 1 v n xs → ∀ g, v.ownBlock = some g → ¬ S g) : TRL w' B z u l := by
  obtain ⟨vs, a, b, c, d⟩ := h
  exact ⟨vs, owns_kept a hk (h1 _ _ _ a), fun i v xs hv hx => owns_kept (b i v xs hv hx) hk (h2 _ _ _ (b i v xs hv hx)), c, d⟩
theorem TRL.push {vs : List Value} (h1 : w.ownsRow B 30 1 u l.length vs) (h2 : ∀ (i : Nat) v xs, vs[i]? = some v → l[i]? = some xs → w.ownsRow B 3 1 v xs.length (ints xs))
    (h3 : ∀ (i j : Nat) v v' b, i < j → vs[i]? = some v → vs[j]? = some v' → v.ownBlock = some b → v'.ownBlock ≠ some b) (h4 : ∀ (i : Nat) v b, vs[i]? = some v → v.ownBlock = some b → b < z)
    (hB : B ≤ z) (hr : w.ownsRow z 3 1 r x.length (ints x)) (ho : w2.ownsRow B 30 1 u2 (l.length + 1) (vs ++ [r])) (hk : Kept (fun q => u.ownBlock = some q) w w2) (hz : w.heap.size ≤ z') : TRL w2 B z' u2 (l ++ [x]) := by
  have hvl : vs.length = l.length := by have := h1.1; omega
  refine ⟨vs ++ [r], by rw [List.length_append]; exact ho, fun i v xs hv hx => ?_, fun i j v v' b hij hv hv' hvb => ?_, fun i v b hv hvb => ?_⟩
  · rcases Nat.lt_trichotomy i vs.length with hi | hi | hi
    · rw [List.getElem?_append_left hi] at hv
      rw [List.getElem?_append_left (by omega)] at hx
      have ha := h2 i v xs hv hx
      exact owns_kept ha hk (fun g hgv => owns_apart' ha h1 (by decide) g hgv)
    · subst hi
      rw [List.getElem?_append_right (Nat.le_refl _), Nat.sub_self] at hv
      rw [hvl, List.getElem?_append_right (Nat.le_refl _), Nat.sub_self] at hx
      simp at hv hx
      subst hv
      subst hx
      have ha := owns_mono hr hB
      exact owns_kept ha hk (fun g hgv => owns_apart' ha h1 (by decide) g hgv)
    · rw [List.getElem?_eq_none (by simp; omega)] at hv
      cases hv
  · have hj : j ≤ vs.length := by
      have := (List.getElem?_eq_some_iff.1 hv').1
      simp at this
      omega
    rw [List.getElem?_append_left (by omega)] at hv
    rcases Nat.lt_or_eq_of_le hj with hj | hj
    · rw [List.getElem?_append_left hj] at hv'
      exact h3 i j v v' b hij hv hv' hvb
    · subst hj
      rw [List.getElem?_append_right (Nat.le_refl _), Nat.sub_self] at hv'
      simp at hv'
      subst hv'
      have a1 := h4 i v b hv hvb
      intro e
      have a2 := (hr.lt b e).1
      omega
  · rcases Nat.lt_trichotomy i vs.length with hi | hi | hi
    · rw [List.getElem?_append_left hi] at hv
      have hil : i < l.length := by omega
      have := ((h2 i v _ hv (List.getElem?_eq_getElem hil)).lt b hvb).2
      omega
    · subst hi
      rw [List.getElem?_append_right (Nat.le_refl _), Nat.sub_self] at hv
      simp at hv
      subst hv
      have := (hr.lt b hvb).2
      omega
    · rw [List.getElem?_eq_none (by simp; omega)] at hv
      cases hv
end

/-- The result that is being made, in block bo, and a row of marks beside it. -/
structure P4 (W1 : World) (bo z : Nat) (rows : List (List Int)) (steps : List I3) (u : Value) (o : List Int) (w : World) : Prop where
  keep : Below W1.heap.size W1 w
  box : ∃ su tu, w.heap[bo]? = some (.cells #[su, tu] 27) ∧ TRL w W1.heap.size z su rows ∧ w.ownsRow W1.heap.size 103 3 tu steps.length (steps.flatMap tri)
  marks : w.ownsRow z 3 1 u o.length (ints o)
  hb : W1.heap.size ≤ bo
  hz : W1.heap.size ≤ z ∧ z ≤ w.heap.size

section
variable {W1 w w1 w2 : World} {bo z z' : Nat} {rows : List (List Int)} {steps : List I3} {u u' : Value} {o o' : List Int}
theorem P4.below (h : P4 W1 bo z rows steps u o w) (hb : Below w.heap.size w w1) : P4 W1 bo z rows steps u o w1 := by
  obtain ⟨su, tu, b1, b2, b3⟩ := h.box
  have hs := hb.size
  have hk := h.keep.size
  exact ⟨h.keep.trans (hb.mono hk), ⟨su, tu, (hb.block _ (Array.getElem?_eq_some_iff.1 b1).1).trans b1, b2.below hb (Nat.le_refl _), owns_below b3 hb (Nat.le_refl _)⟩, owns_below h.marks hb (Nat.le_refl _), h.hb, h.hz.1, Nat.le_trans h.hz.2 hs⟩
theorem P4.withMarks (h : P4 W1 bo z rows steps u o w) (hm : w.ownsRow z 3 1 u' o'.length (ints o')) : P4 W1 bo z rows steps u' o' w := { h with marks := hm }
theorem P4.fresh (h : P4 W1 bo z rows steps u o w) (hz : z ≤ z') (hz2 : z' ≤ w.heap.size) (hm : w.ownsRow z' 3 1 u' o'.length (ints o')) : P4 W1 bo z' rows steps u' o' w := by
  obtain ⟨su, tu, b1, b2, b3⟩ := h.box
  exact ⟨h.keep, ⟨su, tu, b1, b2.wide hz, b3⟩, hm, h.hb, Nat.le_trans h.hz.1 hz, hz2⟩
/-- One step more. -/
theorem P4.step {x : I3} {su tu tu' : Value} (h : P4 W1 bo z rows steps u o w) (b1 : w.heap[bo]? = some (.cells #[su, tu] 27)) (b2 : TRL w W1.heap.size z su rows) (b3 : w.ownsRow W1.heap.size 103 3 tu steps.length (steps.flatMap tri))
    (ho : w1.ownsRow W1.heap.size 103 3 tu' (steps.length + 1) (steps.flatMap tri ++ tri x)) (hk : Kept (fun q => tu.ownBlock = some q) w w1) :
    P4 W1 bo z rows (steps ++ [x]) u o (w1.setCell ⟨bo, 1, none⟩ tu') := by
  have hne : tu.ownBlock ≠ some bo := owns_ne b3 b1 (by decide)
  have hb1 := (hk.block bo (Array.getElem?_eq_some_iff.1 b1).1 hne).trans b1
  have hk2 : Kept (fun q => q = bo) w1 (w1.setCell ⟨bo, 1, none⟩ tu') := (Kept.refl _ _).setCell (S := fun q => q = bo) (p := ⟨bo, 1, none⟩) rfl tu'
  have ht1 := b2.kept_ne hk (fun v m xs ha g hg e => owns_apart' ha b3 (by decide) g hg e) (fun v m xs ha g hg e => owns_apart' ha b3 (by decide) g hg e)
  have hm1 := owns_kept h.marks hk (fun g hg e => owns_apart' h.marks b3 (by decide) g hg e)
  have hnb := owns_ne ho hb1 (by decide)
  have hks := h.keep.size
  refine ⟨(below_kept h.keep hk (fun q hq => (b3.lt q hq).1) hks).setCell h.hb tu', ⟨su, tu', heap_setCell_same w1 bo 1 _ _ tu' hb1, ht1.kept_ne hk2 (fun v m xs ha g hg e => by subst e; exact owns_ne ha hb1 (by decide) hg) (fun v m xs ha g hg e => by subst e; exact owns_ne ha hb1 (by decide) hg), ?_⟩, owns_kept hm1 hk2 (fun g hg e => by subst e; exact owns_ne hm1 hb1 (by decide) hg), h.hb, h.hz.1, ?_⟩
  · have := owns_kept ho hk2 (fun g hg e => by subst e; exact hnb hg)
    rw [List.length_append, List.flatMap_append]
    simpa using this
  · have := hk.size
    have := hk2.size
    have := h.hz.2
    omega
/-- The marks become a row of the result. -/
theorem P4.row {su tu su' : Value} {vs : List Value} (h : P4 W1 bo z rows steps u o w) (b1 : w.heap[bo]? = some (.cells #[su, tu] 27)) (b3 : w.ownsRow W1.heap.size 103 3 tu steps.length (steps.flatMap tri))
    (t1 : w.ownsRow W1.heap.size 30 1 su rows.length vs) (t2 : ∀ (i : Nat) v xs, vs[i]? = some v → rows[i]? = some xs → w.ownsRow W1.heap.size 3 1 v xs.length (ints xs))
    (t3 : ∀ (i j : Nat) v v' b, i < j → vs[i]? = some v → vs[j]? = some v' → v.ownBlock = some b → v'.ownBlock ≠ some b) (t4 : ∀ (i : Nat) v b, vs[i]? = some v → v.ownBlock = some b → b < z)
    (ho : w1.ownsRow W1.heap.size 30 1 su' (rows.length + 1) (vs ++ [u])) (hk : Kept (fun q => su.ownBlock = some q) w w1) :
    P4 W1 bo (w1.setCell ⟨bo, 0, none⟩ su').heap.size (rows ++ [o]) steps (.slice none 0 0) [] (w1.setCell ⟨bo, 0, none⟩ su') := by
  have hne : su.ownBlock ≠ some bo := owns_ne t1 b1 (by decide)
  have hb1 := (hk.block bo (Array.getElem?_eq_some_iff.1 b1).1 hne).trans b1
  have hk2 : Kept (fun q => q = bo) w1 (w1.setCell ⟨bo, 0, none⟩ su') := (Kept.refl _ _).setCell (S := fun q => q = bo) (p := ⟨bo, 0, none⟩) rfl su'
  have hks := h.keep.size
  have hs1 := hk.size
  have hs2 := hk2.size
  have ht := TRL.push (z' := (w1.setCell ⟨bo, 0, none⟩ su').heap.size) t1 t2 t3 t4 h.hz.1 h.marks ho hk (by omega)
  have hst := owns_kept b3 hk (fun g hg e => owns_apart' b3 t1 (by decide) g hg e)
  refine ⟨(below_kept h.keep hk (fun q hq => (t1.lt q hq).1) hks).setCell h.hb su', ⟨su', tu, heap_setCell_same w1 bo 0 _ _ su' hb1, ht.kept_ne hk2 (fun v m xs ha g hg e => by subst e; exact owns_ne ha hb1 (by decide) hg) (fun v m xs ha g hg e => by subst e; exact owns_ne ha hb1 (by decide) hg), owns_kept hst hk2 (fun g hg e => by subst e; exact owns_ne hst hb1 (by decide) hg)⟩, World.ownsRow_nil _ _ _ _, h.hb, by omega, Nat.le_refl _⟩
end

end Go.Proofs.YtdgnhfhaaghoaaaGreatDoor
