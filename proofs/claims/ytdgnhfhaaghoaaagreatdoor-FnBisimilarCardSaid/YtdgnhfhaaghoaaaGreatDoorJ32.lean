/- Labelled systems: which states are simulated by which: the reference walked. -/
import Derived.Test.YtdgnhfhaaghoaaaGreatDoorProg
import Derived.Test.YtdgnhfhaaghoaaaGreatDoorJ31
import Derived.Test.YtdgnhfhaaghoaaaGreatDoorJ9
set_option linter.unusedSimpArgs false
set_option linter.unusedVariables false
namespace Go.Proofs.YtdgnhfhaaghoaaaGreatDoor
open Go.RowKit

/-- At first all pairs are related in which the second one shows all marks of the first one. -/
def initP (l : Lab) (i k : Nat) : Bool := partB (l.shows.getD i []) (l.shows.getD k [])
def initI (l : Lab) : Int → Int → Bool := relF l.shows.length (initP l)

/-- How many pairs there are in a table. -/
def cntF (n : Nat) (f : Nat → Nat → Bool) : Nat := ((List.range n).map fun i => ((List.range n).filter fun j => f i j).length).sum
theorem sum_lt {n : Nat} {p q : Nat → Nat} (h : ∀ i, i < n → p i ≤ q i) {i : Nat} (hi : i < n) (hlt : p i < q i) : ((List.range n).map p).sum < ((List.range n).map q).sum := by
  induction n with
  | zero => omega
  | succ n ih =>
    rw [List.range_succ, List.map_append, List.map_append, List.sum_append, List.sum_append]
    have hle : ∀ m, m ≤ n → ((List.range m).map p).sum ≤ ((List.range m).map q).sum := by
      intro m
      induction m with
      | zero => intro _; simp
      | succ m ihm =>
        intro hm
        rw [List.range_succ, List.map_append, List.map_append, List.sum_append, List.sum_append]
        have := ihm (by omega)
        have := h m (by omega)
        simp
        omega
    have hn := h n (by omega)
    by_cases e : i = n
    · subst e
      have := hle i (Nat.le_refl _)
      simp
      omega
    · have := ih (fun j hj => h j (by omega)) (by omega)
      simp
      omega
theorem filter_le' {p q : Nat → Bool} : ∀ {l : List Nat}, (∀ x ∈ l, p x = true → q x = true) → (l.filter p).length ≤ (l.filter q).length
  | [], _ => by simp
  | x :: l, h => by
    have ih := filter_le' (l := l) fun y hy => h y (List.mem_cons_of_mem _ hy)
    rw [List.filter_cons, List.filter_cons]
    cases hp : p x
    · simp only [Bool.false_eq_true, if_false]
      split
      · rw [List.length_cons]; omega
      · exact ih
    · rw [if_pos rfl, if_pos (h x (by simp) hp), List.length_cons, List.length_cons]
      omega
theorem filter_lt' {p q : Nat → Bool} : ∀ {l : List Nat}, (∀ x ∈ l, p x = true → q x = true) → (∃ x ∈ l, p x = false ∧ q x = true) → (l.filter p).length < (l.filter q).length
  | [], _, h => by obtain ⟨x, hx, _⟩ := h; simp at hx
  | x :: l, h, hex => by
    have hle := filter_le' (l := l) fun y hy => h y (List.mem_cons_of_mem _ hy)
    rw [List.filter_cons, List.filter_cons]
    obtain ⟨y, hy, h1, h2⟩ := hex
    rcases List.mem_cons.1 hy with rfl | hy
    · rw [h1, h2]
      simp only [Bool.false_eq_true, if_false, if_true, List.length_cons]
      omega
    · have ih := filter_lt' (l := l) (fun z hz => h z (List.mem_cons_of_mem _ hz)) ⟨y, hy, h1, h2⟩
      cases hp : p x
      · simp only [Bool.false_eq_true, if_false]
        split
        · rw [List.length_cons]; omega
        · exact ih
      · rw [if_pos rfl, if_pos (h x (by simp) hp), List.length_cons, List.length_cons]
        omega
theorem cnt_drop {n : Nat} {f : Nat → Nat → Bool} {i j : Nat} (hi : i < n) (hj : j < n) (h : f i j = true) : cntF n (setN f i j false) < cntF n f := by
  unfold cntF
  have hsub : ∀ x y, setN f i j false x y = true → f x y = true := fun x y e => by
    unfold setN at e
    split at e
    · cases e
    · exact e
  refine sum_lt (i := i) (fun x _ => filter_le' fun y _ => hsub x y) hi (filter_lt' (fun y _ => hsub i y) ⟨j, List.mem_range.2 hj, by simp [setN], h⟩)

/-- How many pairs there are in a table, read off the world. -/
def cellB (w : World) (r j : Nat) : Bool := match w.cell? ⟨r, j, none⟩ with
  | some (.bool b) => b
  | _ => false
def cntW (R : Nat → Nat) (n : Nat) (w : World) : Nat := cntF n fun i j => cellB w (R i) j
theorem cntW_eq {w : World} {B g n : Nat} {R C : Nat → Nat} {f : Nat → Nat → Bool} (h : TabB w B g R C n f) : cntW R n w = cntF n f := by
  unfold cntW cntF
  congr 1
  refine List.map_congr_left fun i hi => ?_
  have hi := List.mem_range.1 hi
  congr 1
  refine List.filter_congr fun j hj => ?_
  have hj := List.mem_range.1 hj
  show cellB w (R i) j = f i j
  unfold cellB
  rw [(h.inner i j hi hj).1]

/-- The relation with one pair less. -/
theorem relF_drop {n : Nat} {f : Nat → Nat → Bool} {i j : Nat} (hi : i < n) (hj : j < n) : relF n (setN f i j false) = dropP (relF n f) i j := by
  funext a b
  unfold dropP relF setN inR
  by_cases e : a = (i : Int) ∧ b = (j : Int)
  · obtain ⟨rfl, rfl⟩ := e
    simp
  · have h1 : (a == (i : Int) && b == (j : Int)) = false := by
      rw [Bool.eq_false_iff]
      intro h
      simp only [Bool.and_eq_true, beq_iff_eq] at h
      exact e h
    rw [h1, Bool.not_false, Bool.and_true]
    by_cases hin : 0 ≤ a ∧ 0 ≤ b
    · have : ¬ (a.toNat = i ∧ b.toNat = j) := fun h => e ⟨by omega, by omega⟩
      rw [if_neg this]
    · have : (decide (0 ≤ a) && decide (a < (n : Int)) && (decide (0 ≤ b) && decide (b < (n : Int)))) = false := by
        rw [Bool.eq_false_iff]
        intro h
        simp only [Bool.and_eq_true, decide_eq_true_eq] at h
        omega
      rw [this, Bool.false_and, Bool.false_and]

set_option maxRecDepth 100000 in
set_option maxHeartbeats 400000 in
theorem l11State_any (v : Value) (l : Lab) (s : Int) (w : World) (hs : SmallLab l) (hv : RLab w v l) :
    Calls Tryz.prog 57 #[v, .int .i64 s] w fun e w' => e = .returned (.bool (goodLab l && inB s 0 ((l.shows.length : Int) - 1))) ∧ Below w.heap.size w w' := by
  have hb1 : ∀ o, Below w.heap.size w (w.alloc o) := fun o => (Below.refl _ _).alloc (Nat.le_refl _) o
  have H := Lib.hid (fun o => l11Good_any v l (w.alloc o) hs (hv.below (hb1 o)))
  have H2 := Lib.hid (fun n lo hi W => l1In_any n lo hi W)
  obtain ⟨sv, tv, rfl, hsv, htv⟩ := hv
  obtain ⟨A, c, vs, rfl, hm, _, _, _⟩ := hsv
  have hs1 := hs.1
  have HB1 := Lib.hid hb1
  clear hb1 htv
  cases hg : goodLab l
  · rw [hg] at H
    go_enter Tryz.func57, Tryz.ntmps57
    go_wp2_with ((with_reducible refine (H.out _).mono ?_); rintro e w1 ⟨rfl, hw⟩)
    go_ret
    exact ⟨rfl, (HB1.out _).trans (hw.mono (HB1.out _).size)⟩
  · rw [hg] at H
    go_enter Tryz.func57, Tryz.ntmps57
    go_wp2_with fail
    refine (H.out _).mono ?_
    rintro e w1 ⟨rfl, hw⟩
    obtain ⟨bx, _⟩ := one_box hw
    have x0 : w1.cell? ⟨w.heap.size, 0, none⟩ = some (.slice A l.shows.length c) := cell_of_row _ _ _ _ _ _ bx
    have HZ := Lib.hid ((HB1.out _).trans (hw.mono (HB1.out _).size))
    clear bx hw
    go_wp2_with fail
    refine (H2.out _ _ _ _).mono ?_
    rintro e w2 ⟨rfl, rfl⟩
    go_wp2_with fail
    go_ret
    exact ⟨by simp, HZ.out⟩

def tOf : Value → Nat
  | .bool true => 1
  | _ => 0

def fillF (f : Nat → Nat → Bool) (i k : Nat) : Nat → Nat → Bool := fun a b => if a < i ∨ (a = i ∧ b < k) then f a b else false
theorem fillF_set (f : Nat → Nat → Bool) (i k : Nat) : setN (fillF f i k) i k (f i k) = fillF f i (k + 1) := by
  funext a b
  unfold setN fillF
  by_cases h : a = i ∧ b = k
  · obtain ⟨rfl, rfl⟩ := h
    rw [if_pos ⟨rfl, rfl⟩, if_pos (.inr ⟨rfl, by omega⟩)]
  · rw [if_neg h]
    by_cases h2 : a < i ∨ (a = i ∧ b < k)
    · rw [if_pos h2, if_pos (by omega)]
    · rw [if_neg h2, if_neg (by omega)]
theorem fillF_row {f : Nat → Nat → Bool} {n : Nat} (i : Nat) : ∀ a b, a < n → b < n → fillF f i n a b = fillF f (i + 1) 0 a b := by
  intro a b ha hb
  unfold fillF
  by_cases h2 : a < i ∨ (a = i ∧ b < n)
  · rw [if_pos h2, if_pos (by omega)]
  · rw [if_neg h2, if_neg (by omega)]
theorem fillF_all {f : Nat → Nat → Bool} {n : Nat} : ∀ a b, a < n → b < n → fillF f n 0 a b = f a b := by
  intro a b ha hb
  unfold fillF
  rw [if_pos (.inl ha)]
theorem relF_congr {n : Nat} {f f' : Nat → Nat → Bool} (h : ∀ a b, a < n → b < n → f a b = f' a b) : relF n f = relF n f' := by
  funext a b
  unfold relF inR
  by_cases hin : 0 ≤ a ∧ a < (n : Int) ∧ 0 ≤ b ∧ b < (n : Int)
  · rw [h a.toNat b.toNat (by omega) (by omega)]
  · have : (decide (0 ≤ a) && decide (a < (n : Int)) && (decide (0 ≤ b) && decide (b < (n : Int)))) = false := by
      rw [Bool.eq_false_iff]
      intro h
      simp only [Bool.and_eq_true, decide_eq_true_eq] at h
      omega
    rw [this, Bool.false_and, Bool.false_and]

set_option maxRecDepth 100000 in
set_option maxHeartbeats 16000000 in
theorem l11Simulated_any (v : Value) (l : Lab) (w : World) (hs : SmallLab l) (hg : goodLab l = true) (hv : RLab w v l) :
    Calls Tryz.prog 118 #[v] w fun e w' => ∃ g c R C f, e = .returned (.slice (some ⟨g, 0, none⟩) l.shows.length c) ∧ TabB w' w.heap.size g R C l.shows.length f ∧ SimR l.shows.length l.steps (initI l) (relF l.shows.length f) ∧ SimStable l.steps (relF l.shows.length f) ∧ Below w.heap.size w w' := by
  have hin := lab_in hg
  have hn1 : 1 ≤ l.shows.length := by have := hin.some_; omega
  have hn40 : l.shows.length ≤ 40 := by have := hin.most; omega
  have HV := Lib.hid (show ∀ W, Below w.heap.size w W → RLab W v l from fun W hb => hv.below hb)
  have HSM := Lib.hid hs
  have HG := Lib.hid hg
  have HSH := Lib.hid hs.2.2
  obtain ⟨sv, tv, rfl, hsv, htv⟩ := hv
  have HSV := Lib.hid (show ∀ W, Below w.heap.size w W → RSS W sv l.shows from fun W hb => hsv.below hb)
  obtain ⟨A, c0, vs, rfl, _, _, _, _⟩ := hsv
  obtain ⟨D, d, rfl, _, _⟩ := htv
  have hb0 : Below w.heap.size w (w.alloc (.cells #[.slice A l.shows.length c0, .slice D l.steps.length d] 27)) := (Below.refl _ _).alloc (Nat.le_refl _) _
  have HB0 := Lib.hid hb0
  have x0 : (w.alloc (.cells #[.slice A l.shows.length c0, .slice D l.steps.length d] 27)).cell? ⟨w.heap.size, 0, none⟩ = some (.slice A l.shows.length c0) := cell_of_row _ _ _ _ _ _ (heap_alloc_new _ _)
  have HTB := Lib.hid (l11Table_any l.shows.length (w.alloc (.cells #[.slice A l.shows.length c0, .slice D l.steps.length d] 27)) (by omega) (by omega))
  rw [World.size_alloc] at HTB
  clear hb0 hs hg hin
  go_enter Tryz.func118, Tryz.ntmps118
  go_wp2_with fail
  refine HTB.out.mono ?_
  rintro e w1 ⟨g, c, R, C, rfl, ht, hw1⟩
  obtain ⟨bx, _⟩ := one_box (w := w) (o1 := .cells #[.slice A l.shows.length c0, .slice D l.steps.length d] 27) (by rw [World.size_alloc]; exact hw1)
  have HBX := Lib.hid bx
  have HT := Lib.hid ht
  have HZ := Lib.hid (HB0.out.trans (hw1.mono (by omega)))
  clear x0 hw1 ht bx HTB HB0
  go_wp2_with fail
  go_loopw [5] (fun i wr => ∃ k : Nat, k ≤ l.shows.length ∧ i = .int .i64 k ∧ TabB wr (w.heap.size + 1) g R C l.shows.length (fillF (initP l) k 0) ∧ Below w.heap.size w wr ∧ wr.heap[w.heap.size]? = some (.cells #[.slice A l.shows.length c0, .slice D l.steps.length d] 27))
    (fun i _ => l.shows.length - (intOf i).toNat)
  case atStart => exact ⟨0, Nat.zero_le _, rfl, HT.out.congr (fun a b _ _ => by simp [fillF]), HZ.out, HBX.out⟩
  case round =>
    clear HT HZ HBX
    obtain ⟨i, hi, rfl, ht, hbel, hbx⟩ := hrel
    have HT := Lib.hid ht
    have HZ := Lib.hid hbel
    have HBX := Lib.hid hbx
    clear ht hbel hbx
    by_cases hlt : i < l.shows.length
    · go_wp2_with fail
      go_loopw [6] (fun q wr => ∃ k : Nat, k ≤ l.shows.length ∧ q = .int .i64 k ∧ TabB wr (w.heap.size + 1) g R C l.shows.length (fillF (initP l) i k) ∧ Below w.heap.size w wr ∧ wr.heap[w.heap.size]? = some (.cells #[.slice A l.shows.length c0, .slice D l.steps.length d] 27))
        (fun q _ => l.shows.length - (intOf q).toNat)
      case atStart => exact ⟨0, Nat.zero_le _, rfl, HT.out, HZ.out, HBX.out⟩
      case round =>
        clear HT HZ HBX
        obtain ⟨k, hk, rfl, ht, hbel, hbx⟩ := hrel
        have HT := Lib.hid ht
        have HZ := Lib.hid hbel
        have HBX := Lib.hid hbx
        by_cases hkt : k < l.shows.length
        · obtain ⟨A', c', us, e, _, hul, hcu, hru⟩ := HSV.out wr hbel
          cases e
          have hil := hlt
          have hkl := hkt
          obtain ⟨sb, so, rfl, hcc⟩ := hcu.at_ (k := i) (by omega)
          have ci := hcc i _ (List.getElem?_eq_getElem (by omega))
          have ck := hcc k _ (List.getElem?_eq_getElem (by omega))
          obtain ⟨Ai, ai, ei, _, hAi⟩ := hru i _ _ (List.getElem?_eq_getElem (by omega)) (List.getElem?_eq_getElem hil)
          obtain ⟨Ak, ak, ek, _, hAk⟩ := hru k _ _ (List.getElem?_eq_getElem (by omega)) (List.getElem?_eq_getElem hkl)
          rw [ei] at ci
          rw [ek] at ck
          have hsi := HSH.out _ (List.getElem_mem hil)
          have hsk := HSH.out _ (List.getElem_mem hkl)
          have HP := Lib.hid (fun W (hW : Below wr.heap.size wr W) => l7Part_any Ai Ak ai ak _ _ W hsi hsk (hAi.below hW) (hAk.below hW))
          have hini : initP l i k = partB l.shows[i] l.shows[k] := by unfold initP; simp [List.getD, hil, hkl]
          have HS := Lib.hid (fillF_set (initP l) i k)
          rw [hini] at HS
          have o1 := ht.outer i hlt
          obtain ⟨n1, n2⟩ := ht.inner i k hlt hkt
          have x0 : wr.cell? ⟨w.heap.size, 0, none⟩ = some (.slice (some ⟨sb, so, none⟩) l.shows.length c0) := cell_of_row _ _ _ _ _ _ hbx
          have b0 : (0 : Int) ≤ (i : Int) := by omega
          have b1 : (i : Int) < (l.shows.length : Int) := by omega
          have b2 : (0 : Int) ≤ (k : Int) := by omega
          have b3 : (k : Int) < (l.shows.length : Int) := by omega
          have HTS := Lib.hid (fun b => show TabB (wr.setCell ⟨R i, k, none⟩ (.bool b)).drew (w.heap.size + 1) g R C l.shows.length _ from (ht.set hlt hkt b).below (Below.refl _ _).drew (Nat.le_refl _))
          have hlow := (ht.low i hlt).1
          have hsb : sb < w.heap.size := by
            obtain ⟨_, _, us0, e0, _, hul0, hcu0, _⟩ := HSV.out w (Below.refl _ _)
            cases e0
            obtain ⟨b', o', e1, hcc0⟩ := hcu0.at_ (k := i) (by omega)
            cases e1
            exact lt_of_cell (hcc0 i _ (List.getElem?_eq_getElem (by omega)))
          have hS4 : ∀ b, (wr.setCell ⟨R i, k, none⟩ (.bool b)).drew.cell? ⟨w.heap.size, 0, none⟩ = some (.slice (some ⟨sb, so, none⟩) l.shows.length c0) ∧ (wr.setCell ⟨R i, k, none⟩ (.bool b)).drew.cell? ⟨sb, so + i, none⟩ = some (.slice Ai l.shows[i].length ai) ∧ (wr.setCell ⟨R i, k, none⟩ (.bool b)).drew.cell? ⟨sb, so + k, none⟩ = some (.slice Ak l.shows[k].length ak) ∧ (wr.setCell ⟨R i, k, none⟩ (.bool b)).drew.cell? ⟨g, i, none⟩ = some (.slice (some ⟨R i, 0, none⟩) l.shows.length (C i)) := fun b => by
            have hne := (ht.low i hlt).2
            refine ⟨?_, ?_, ?_, ?_⟩
            · exact (World.cell?_setCell_other wr _ _ _ (by intro e; simp only [Addr.mk.injEq, and_true] at e; omega)).trans x0
            · exact (World.cell?_setCell_other wr _ _ _ (by intro e; simp only [Addr.mk.injEq, and_true] at e; omega)).trans ci
            · exact (World.cell?_setCell_other wr _ _ _ (by intro e; simp only [Addr.mk.injEq, and_true] at e; omega)).trans ck
            · exact (World.cell?_setCell_other wr _ _ _ (by intro e; simp only [Addr.mk.injEq, and_true] at e; omega)).trans o1
          have HS4 := Lib.hid hS4
          have HBXS := Lib.hid (fun u => (heap_setCell_other wr ⟨R i, k, none⟩ w.heap.size u (by dsimp only; omega)).trans hbx)
          clear hS4 hcc hru hcu ei ek hAi hAk hsi hsk hini ht hbel hbx hul
          generalize l.shows[i] = xi at *
          generalize l.shows[k] = xk at *
          go_wp2_with fail
          go_region_held3 (fun w' => w'.cell? ⟨w.heap.size, 0, none⟩ = some (.slice (some ⟨sb, so, none⟩) l.shows.length c0) ∧ w'.cell? ⟨sb, so + i, none⟩ = some (.slice Ai xi.length ai) ∧ w'.cell? ⟨sb, so + k, none⟩ = some (.slice Ak xk.length ak) ∧ w'.cell? ⟨g, i, none⟩ = some (.slice (some ⟨R i, 0, none⟩) l.shows.length (C i)))
            (first | exact HS4.out _ | exact HS4.out (partB xi xk) | go_keep)
            (first | (go_at_call 171; refine (HP.out _ (by first | exact Below.refl _ _ | exact (Below.refl _ wr).drew)).mono ?_; rintro e w3 ⟨rfl, rfl⟩))
          go_wp2_with fail
          go_roundw
          case rel => exact ⟨k + 1, by omega, by go_num, by rw [← HS.out]; exact HTS.out _, (HZ.out.setCell (p := ⟨R i, k, none⟩) (by show w.heap.size ≤ R i; omega) _).drew, HBXS.out _⟩
          case measure => simp [intOf]; omega
        · obtain rfl : k = l.shows.length := by omega
          have HT2 := Lib.hid (ht.congr (fillF_row i))
          clear ht hbel hbx
          go_wp2_with fail
          go_roundw
          case rel => exact ⟨i + 1, by omega, by go_num, HT2.out, HZ.out, HBX.out⟩
          case measure => simp [intOf]; omega
    · obtain rfl : i = l.shows.length := by omega
      have HT2 := Lib.hid (HT.out.congr fillF_all)
      have HIN := Lib.hid (lab_in HG.out)
      clear HT
      go_wp2_with fail
      go_loopw [7] (fun x wr => ∃ (b : Bool) (f : Nat → Nat → Bool), x = .bool b ∧ TabB wr (w.heap.size + 1) g R C l.shows.length f ∧ SimR l.shows.length l.steps (initI l) (relF l.shows.length f) ∧ (b = false → SimStable l.steps (relF l.shows.length f)) ∧ Below w.heap.size w wr ∧ wr.heap[w.heap.size]? = some (.cells #[.slice A l.shows.length c0, .slice D l.steps.length d] 27))
        (fun x wr => 2 * cntW R l.shows.length wr + tOf x)
      case atStart => exact ⟨true, initP l, rfl, HT2.out, sim_init, (fun h => by cases h), HZ.out, HBX.out⟩
      case round =>
        clear HT2 HZ HBX
        obtain ⟨b, f, rfl, ht, hsim, hst, hbel, hbx⟩ := hrel
        cases b with
        | false =>
          have HT := Lib.hid (ht.mono (Nat.le_succ w.heap.size))
          have HSIM := Lib.hid hsim
          have HST := Lib.hid (hst rfl)
          have HZ := Lib.hid hbel
          clear ht hsim hst hbel hbx
          go_wp2_with fail
          go_ret
          exact ⟨g, c, R, C, f, rfl, HT.out, HSIM.out, HST.out, HZ.out⟩
        | true =>
          have HCW := Lib.hid (cntW_eq ht)
          have HT := Lib.hid ht
          have HSIM := Lib.hid hsim
          have HZ := Lib.hid hbel
          have HBX := Lib.hid hbx
          clear ht hsim hst hbel hbx
          obtain ⟨m, hm⟩ : ∃ m, m = cntF l.shows.length f := ⟨_, rfl⟩
          have HM := Lib.hid hm
          have HWM := Lib.hid (show cntW R l.shows.length wr = m by rw [HCW.out, HM.out])
          clear hm
          go_wp2_with fail
          go_loopw [7, 8] (fun x q wr => ∃ (b : Bool) (f : Nat → Nat → Bool) (i : Nat), i ≤ l.shows.length ∧ q = .int .i64 i ∧ x = .bool b ∧ TabB wr (w.heap.size + 1) g R C l.shows.length f ∧ SimR l.shows.length l.steps (initI l) (relF l.shows.length f) ∧ (b = false → ∀ a y : Nat, a < i → y < l.shows.length → f a y = true → folB l.steps a y (relF l.shows.length f) = true) ∧ cntF l.shows.length f ≤ m ∧ (b = true → cntF l.shows.length f < m) ∧ Below w.heap.size w wr ∧ wr.heap[w.heap.size]? = some (.cells #[.slice A l.shows.length c0, .slice D l.steps.length d] 27))
            (fun _ q _ => l.shows.length - (intOf q).toNat)
          case atStart => exact ⟨false, f, 0, Nat.zero_le _, rfl, rfl, HT.out, HSIM.out, (fun _ a y h => by omega), (by rw [← HM.out]; exact Nat.le_refl _), (fun h => by cases h), HZ.out, HBX.out⟩
          case round =>
            clear HT HSIM HZ HBX
            obtain ⟨b, f, i, hi, rfl, rfl, ht, hsim, hst, hle, hlt2, hbel, hbx⟩ := hrel
            have HT := Lib.hid ht
            have HSIM := Lib.hid hsim
            have HST := Lib.hid hst
            have HLE := Lib.hid hle
            have HLT := Lib.hid hlt2
            have HZ := Lib.hid hbel
            have HBX := Lib.hid hbx
            clear ht hsim hst hle hlt2 hbel hbx
            by_cases hlt : i < l.shows.length
            · go_wp2_with fail
              go_loopw [7, 9] (fun x q wr => ∃ (b : Bool) (f : Nat → Nat → Bool) (k : Nat), k ≤ l.shows.length ∧ q = .int .i64 k ∧ x = .bool b ∧ TabB wr (w.heap.size + 1) g R C l.shows.length f ∧ SimR l.shows.length l.steps (initI l) (relF l.shows.length f) ∧ (b = false → ∀ a y : Nat, a < i ∨ (a = i ∧ y < k) → y < l.shows.length → f a y = true → folB l.steps a y (relF l.shows.length f) = true) ∧ cntF l.shows.length f ≤ m ∧ (b = true → cntF l.shows.length f < m) ∧ Below w.heap.size w wr ∧ wr.heap[w.heap.size]? = some (.cells #[.slice A l.shows.length c0, .slice D l.steps.length d] 27))
                (fun _ q _ => l.shows.length - (intOf q).toNat)
              case atStart => exact ⟨b, f, 0, Nat.zero_le _, rfl, rfl, HT.out, HSIM.out, (fun hb a y h => HST.out hb a y (by omega)), HLE.out, HLT.out, HZ.out, HBX.out⟩
              case round =>
                clear HT HSIM HST HLE HLT HZ HBX
                obtain ⟨b, f, k, hk, rfl, rfl, ht, hsim, hst, hle, hlt2, hbel, hbx⟩ := hrel
                have HT := Lib.hid ht
                have HSIM := Lib.hid hsim
                have HST := Lib.hid hst
                have HLE := Lib.hid hle
                have HLT := Lib.hid hlt2
                have HZ := Lib.hid hbel
                have HBX := Lib.hid hbx
                by_cases hkt : k < l.shows.length
                · have o1 := ht.outer i hlt
                  obtain ⟨n1, n2⟩ := ht.inner i k hlt hkt
                  have x0 : wr.cell? ⟨w.heap.size, 0, none⟩ = some (.slice A l.shows.length c0) := cell_of_row _ _ _ _ _ _ hbx
                  have x1 : wr.cell? ⟨w.heap.size, 1, none⟩ = some (.slice D l.steps.length d) := cell_of_row _ _ _ _ _ _ hbx
                  have b0 : (0 : Int) ≤ (i : Int) := by omega
                  have b1 : (i : Int) < (l.shows.length : Int) := by omega
                  have b2 : (0 : Int) ≤ (k : Int) := by omega
                  have b3 : (k : Int) < (l.shows.length : Int) := by omega
                  have HAN := Lib.hid (fun W (hW : Below wr.heap.size wr W) => l11Answered_any _ l (w.heap.size + 1) g c R C l.shows.length f i k W HSM.out HG.out rfl (HV.out W (HZ.out.trans (hW.mono HZ.out.size))) (ht.below hW (Nat.le_refl _)))
                  have hbw : w.heap.size < wr.heap.size := (Array.getElem?_eq_some_iff.1 hbx).1
                  clear ht hsim hst hle hlt2 hbel hbx
                  cases hf : f i k
                  · rw [hf] at n1
                    have HST2 := Lib.hid (show b = false → ∀ a y : Nat, a < i ∨ (a = i ∧ y < k + 1) → y < l.shows.length → f a y = true → folB l.steps a y (relF l.shows.length f) = true from fun hb a y h hy hfa => by
                      by_cases e : a = i ∧ y = k
                      · obtain ⟨rfl, rfl⟩ := e
                        rw [hf] at hfa
                        cases hfa
                      · exact HST.out hb a y (by omega) hy hfa)
                    clear hf HAN
                    go_wp2_with fail
                    go_roundw
                    case rel => exact ⟨b, f, k + 1, by omega, by go_num, rfl, HT.out, HSIM.out, HST2.out, HLE.out, HLT.out, HZ.out, HBX.out⟩
                    case measure => simp [intOf]; omega
                  · rw [hf] at n1
                    cases hans : folB l.steps i k (relF l.shows.length f)
                    · have HS2 := Lib.hid (show SimR l.shows.length l.steps (initI l) (relF l.shows.length (setN f i k false)) by rw [relF_drop hlt hkt]; exact sim_drop HSIM.out hans)
                      have HC2 := Lib.hid (cnt_drop hlt hkt hf)
                      rw [hans] at HAN
                      clear hf hans HST HLT
                      go_wp2_with fail
                      refine (HAN.out _ (Below.refl _ _)).mono ?_
                      rintro e w3 ⟨rfl, hw3⟩
                      have o1 := cell_below hw3 o1 (lt_of_cell o1)
                      have ht3 := HT.out.below hw3 (Nat.le_refl _)
                      obtain ⟨n1, n2⟩ := ht3.inner i k hlt hkt
                      have HT3 := Lib.hid (ht3.set hlt hkt false)
                      have HZ3 := Lib.hid ((HZ.out.trans (hw3.mono HZ.out.size)).setCell (p := ⟨R i, k, none⟩) (by have := (ht3.low i hlt).1; show w.heap.size ≤ R i; omega) (.bool false))
                      have HBX3 := Lib.hid ((heap_setCell_other w3 ⟨R i, k, none⟩ w.heap.size (.bool false) (by have := (ht3.low i hlt).1; dsimp only; omega)).trans ((hw3.block w.heap.size hbw).trans HBX.out))
                      clear hw3 ht3 x0 x1 HAN
                      go_wp2_with fail
                      go_roundw
                      case rel => exact ⟨true, _, k + 1, by omega, by go_num, rfl, HT3.out, HS2.out, (fun h => by cases h), (by have := HC2.out; have := HLE.out; omega), (fun _ => by have := HC2.out; have := HLE.out; omega), HZ3.out, HBX3.out⟩
                      case measure => simp [intOf]; omega
                    · have HST2 := Lib.hid (show b = false → ∀ a y : Nat, a < i ∨ (a = i ∧ y < k + 1) → y < l.shows.length → f a y = true → folB l.steps a y (relF l.shows.length f) = true from fun hb a y h hy hfa => by
                        by_cases e : a = i ∧ y = k
                        · obtain ⟨rfl, rfl⟩ := e
                          exact hans
                        · exact HST.out hb a y (by omega) hy hfa)
                      rw [hans] at HAN
                      clear hf hans HST
                      go_wp2_with fail
                      refine (HAN.out _ (Below.refl _ _)).mono ?_
                      rintro e w3 ⟨rfl, hw3⟩
                      have HT3 := Lib.hid (HT.out.below hw3 (Nat.le_refl _))
                      have HZ3 := Lib.hid (HZ.out.trans (hw3.mono HZ.out.size))
                      have HBX3 := Lib.hid ((hw3.block w.heap.size hbw).trans HBX.out)
                      clear hw3 x0 x1 HAN o1 n1 n2
                      go_wp2_with fail
                      go_roundw
                      case rel => exact ⟨b, f, k + 1, by omega, by go_num, rfl, HT3.out, HSIM.out, HST2.out, HLE.out, HLT.out, HZ3.out, HBX3.out⟩
                      case measure => simp [intOf]; omega
                · obtain rfl : k = l.shows.length := by omega
                  clear ht hsim hst hle hlt2 hbel hbx
                  go_wp2_with fail
                  go_roundw
                  case rel => exact ⟨b, f, i + 1, by omega, by go_num, rfl, HT.out, HSIM.out, (fun hb a y h hy => HST.out hb a y (by omega) hy), HLE.out, HLT.out, HZ.out, HBX.out⟩
                  case measure => simp [intOf]; omega
            · obtain rfl : i = l.shows.length := by omega
              have HS2 := Lib.hid (show b = false → SimStable l.steps (relF l.shows.length f) from fun hb a y h => by
                obtain ⟨a', y', rfl, rfl, ha, hy, hf⟩ := relF_in h
                exact HST.out hb a' y' ha hy hf)
              have HC2 := Lib.hid (cntW_eq HT.out)
              clear HST
              go_wp2_with fail
              go_roundw
              case rel => exact ⟨b, f, rfl, HT.out, HSIM.out, HS2.out, HZ.out, HBX.out⟩
              case measure =>
                rw [HC2.out, HWM.out]
                have h1 := HLE.out
                have h2 := HLT.out
                cases b
                · show 2 * cntF l.shows.length f + 0 < 2 * m + 1
                  omega
                · have := h2 rfl
                  show 2 * cntF l.shows.length f + 1 < 2 * m + 1
                  omega

end Go.Proofs.YtdgnhfhaaghoaaaGreatDoor
