/- Which states satisfy a formula: program and reference, the five cases joined. -/
import Derived.Test.YtdgnhfhaaghoaaaGreatDoorProg
import Derived.Test.YtdgnhfhaaghoaaaGreatDoorJ34
import Derived.Test.YtdgnhfhaaghoaaaGreatDoorJ35
import Derived.Test.YtdgnhfhaaghoaaaGreatDoorJ26
set_option linter.unusedSimpArgs false
set_option linter.unusedVariables false
namespace Go.Proofs.YtdgnhfhaaghoaaaGreatDoor
open Go.RowKit

/-- The steps of a good labelled system are in range. -/
def StepsIn (l : Lab) : Prop := ∀ s ∈ l.steps, ∃ i j : Nat, s.1 = (i : Int) ∧ s.2.2 = (j : Int) ∧ i < l.shows.length ∧ j < l.shows.length

theorem allR_at {n : Nat} {p : Nat → Bool} (h : allR n p = true) {k : Nat} (hk : k < n) : p k = true := by
  unfold allR at h
  exact List.all_eq_true.1 h k (List.mem_range.2 hk)

theorem good_steps {l : Lab} (h : goodLab l = true) : StepsIn l := by
  intro s hs
  unfold goodLab at h
  simp only [Bool.and_eq_true] at h
  obtain ⟨i, hi, rfl⟩ := List.getElem_of_mem hs
  have h1 := allR_at h.2.1 hi
  unfold stepAt stepIn at h1
  simp only [Bool.and_eq_true] at h1
  have e : l.steps.getD i (0, 0, 0) = l.steps[i] := by simp [List.getD, hi]
  rw [e] at h1
  have a := inB_true h1.1.1
  have b := inB_true h1.1.2.2
  exact ⟨l.steps[i].1.toNat, l.steps[i].2.2.toNat, by omega, by omega, by omega, by omega⟩

theorem satB_can (l : Lab) (f : List Int) (n k : Nat) (h : f.getD k 0 = 4) : satB l f (n + 1) k = rowT l.shows.length (f.getD (k + 1) 0) (satB l f n ((k : Int) + 2)) l.steps := by
  rw [satB, Int.toNat_natCast, h]
  rfl

theorem sat_any (lv : Value) (l : Lab) (A : Option Addr) (c : Nat) (f : List Int) (hs : SmallLab l) (hg : StepsIn l) (hf : f.length ≤ 200) :
    ∀ (n k : Nat) (w : World), RLab w lv l → Cells w A (ints f) → f.length ≤ k + n → 0 ≤ fEnd n f k →
    Calls Tryz.prog 62 #[lv, .slice A f.length c, .int .i64 k] w fun e w' => ∃ v, e = .returned v ∧ w'.ownsRow w.heap.size 4 1 v l.shows.length (bools (satB l f n k)) ∧ Below w.heap.size w w' := by
  intro n
  induction n with
  | zero => intro k w _ _ _ h; simp [fEnd] at h
  | succ n ih =>
    intro k w hl hA hn h
    have hk := fEnd_p0 h
    have hI : ∀ (p : Nat), k + 1 ≤ p → 0 ≤ fEnd n f p → ∀ W, Below w.heap.size w W → Calls Tryz.prog 62 #[lv, .slice A f.length c, .int .i64 p] W fun e W' => ∃ v, e = .returned v ∧ W'.ownsRow W.heap.size 4 1 v l.shows.length (bools (satB l f n p)) ∧ Below W.heap.size W W' :=
      fun p hp he W hb => ih p W (hl.below hb) (hA.below hb) (by omega) he
    rcases fEnd_step h with ⟨h0, h1⟩ | ⟨h0, hk1, ha, hb, h1⟩ | ⟨h0, h1⟩ | ⟨h0, ha, h1⟩ | ⟨h0, hk1, ha, hb, h1⟩
    · have e : satB l f (n + 1) k = l.shows.map (fun _ => true) := by rw [satB, Int.toNat_natCast, h0]; rfl
      rw [e]
      exact sat_true lv l A c f k w hs hl hf hA (by omega) h0
    · have e : satB l f (n + 1) k = l.shows.map (fun m => hasI m (f.getD (k + 1) 0)) := by rw [satB, Int.toNat_natCast, h0]; rfl
      rw [e]
      exact sat_mark lv l A c f k w hs hl hf hA hk1 h0
    · have e : satB l f (n + 1) k = (satB l f n ((k : Int) + 1)).map (!·) := by rw [satB, Int.toNat_natCast, h0]; rfl
      rw [e]
      rw [h1] at h
      exact sat_not lv l A c f k _ w hs hl hf hA (by omega) h0 (satB_len l f n _ h) (hI (k + 1) (Nat.le_refl _) h)
    · have e : satB l f (n + 1) k = List.zipWith (· && ·) (satB l f n ((k : Int) + 1)) (satB l f n (fEnd n f ((k : Int) + 1))) := by rw [satB, Int.toNat_natCast, h0]; rfl
      rw [e]
      rw [h1] at h
      have hp := fEnd_pos ha
      have hF := fun W (hb : Below w.heap.size w W) => formulaEnd_any A c f (by omega) W (.of_cells (hA.below hb)) n ((k : Int) + 1) (by omega) (by omega) (by omega)
      have hl1 := satB_len l f n _ ha
      have hi1 := hI (k + 1) (Nat.le_refl _) ha
      generalize fEnd n f ((k : Int) + 1) = p2 at *
      obtain ⟨m, rfl⟩ := Int.eq_ofNat_of_zero_le ha
      exact sat_and lv l A c f k m _ _ w hs hl hf hA (by omega) h0 hl1 (satB_len l f n _ h) hF (hI m (by omega) h) hi1
    · rw [satB_can l f n k h0]
      rw [h1] at h
      exact sat_can lv l A c f k _ w hs hl hf hA hk1 h0 (satB_len l f n _ h) hg (hI (k + 2) (by omega) h)

theorem true_any (lv : Value) (l : Lab) (A : Option Addr) (c : Nat) (f : List Int) (hs : SmallLab l) (hg : StepsIn l) (hf : f.length ≤ 200) :
    ∀ (n k : Nat) (w : World), RLab w lv l → Cells w A (ints f) → 0 ≤ fEnd n f k →
    Calls Tryz.prog 84 #[lv, .slice A f.length c, .int .i64 k] w fun e w' => ∃ v, e = .returned (.tuple #[v, .int .i64 (fEnd n f k)]) ∧ w'.ownsRow w.heap.size 4 1 v l.shows.length (bools (satB l f n k)) ∧ Below w.heap.size w w' := by
  intro n
  induction n with
  | zero => intro k w _ _ h; simp [fEnd] at h
  | succ n ih =>
    intro k w hl hA h
    have hk := fEnd_p0 h
    have hI : ∀ (p : Nat), 0 ≤ fEnd n f p → ∀ W, Below w.heap.size w W → Calls Tryz.prog 84 #[lv, .slice A f.length c, .int .i64 p] W fun e W' => ∃ v, e = .returned (.tuple #[v, .int .i64 (fEnd n f p)]) ∧ W'.ownsRow W.heap.size 4 1 v l.shows.length (bools (satB l f n p)) ∧ Below W.heap.size W W' :=
      fun p he W hb => ih p W (hl.below hb) (hA.below hb) he
    rcases fEnd_step h with ⟨h0, h1⟩ | ⟨h0, hk1, ha, hb, h1⟩ | ⟨h0, h1⟩ | ⟨h0, ha, h1⟩ | ⟨h0, hk1, ha, hb, h1⟩
    · have e : satB l f (n + 1) k = l.shows.map (fun _ => true) := by rw [satB, Int.toNat_natCast, h0]; rfl
      rw [e, h1]
      exact true_true lv l A c f k w hs hl hf hA (by omega) h0
    · have e : satB l f (n + 1) k = l.shows.map (fun m => hasI m (f.getD (k + 1) 0)) := by rw [satB, Int.toNat_natCast, h0]; rfl
      rw [e, h1]
      exact true_mark lv l A c f k w hs hl hf hA hk1 h0
    · have e : satB l f (n + 1) k = (satB l f n ((k : Int) + 1)).map (!·) := by rw [satB, Int.toNat_natCast, h0]; rfl
      rw [h1] at h
      rw [e, h1]
      exact true_not lv l A c f k _ _ w hs hl hf hA (by omega) h0 (satB_len l f n _ h) (hI (k + 1) h)
    · have e : satB l f (n + 1) k = List.zipWith (· && ·) (satB l f n ((k : Int) + 1)) (satB l f n (fEnd n f ((k : Int) + 1))) := by rw [satB, Int.toNat_natCast, h0]; rfl
      rw [h1] at h
      rw [e, h1]
      have hl1 := satB_len l f n _ ha
      have hi1 := hI (k + 1) ha
      rw [show ((k + 1 : Nat) : Int) = (k : Int) + 1 by omega] at hi1
      generalize fEnd n f ((k : Int) + 1) = p2 at *
      obtain ⟨m, rfl⟩ := Int.eq_ofNat_of_zero_le ha
      exact true_and lv l A c f k m _ _ _ w hs hl hf hA (by omega) h0 hl1 (satB_len l f n _ h) hi1 (hI m h)
    · rw [satB_can l f n k h0]
      rw [h1] at h
      rw [h1]
      exact true_can lv l A c f k _ _ w hs hl hf hA hk1 h0 (satB_len l f n _ h) hg (hI (k + 2) h)

end Go.Proofs.YtdgnhfhaaghoaaaGreatDoor
