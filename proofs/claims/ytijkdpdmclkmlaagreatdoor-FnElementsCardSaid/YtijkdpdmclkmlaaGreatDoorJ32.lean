/- slices.Repeat of one number: library walked. -/
import Derived.Test.YtijkdpdmclkmlaaGreatDoorProg
import Derived.Test.YtijkdpdmclkmlaaGreatDoorJ0
import Derived.Laws.CopyOwn
import Derived.IntWalk
import Derived.Deep.RegionHeld3
import Derived.StillTailTactics
set_option linter.unusedSimpArgs false
set_option linter.unusedVariables false
set_option maxRecDepth 100000
set_option maxHeartbeats 16000000
namespace Go.Proofs.YtijkdpdmclkmlaaGreatDoor
open Go.RowKit
theorem info_ri : (Tryz.prog.info? 3).map (fun i => (i.zero, i.size, i.bytes)) = some (some (.int .i64 0), 1, 8) := by kernel_rfl

theorem and_mask : ∀ n : Fin 41, bits BinOp.and IntKind.u64 (n.val : Int) 4294967295 = (n.val : Int) := by decide +kernel

set_option maxRecDepth 100000 in
set_option maxHeartbeats 8000000 in
theorem mul64_any (n : Nat) (w : World) (h : n ≤ 40) :
    Calls Tryz.prog 238 #[.int .u64 1, .int .u64 n] w fun e w' => e = .returned (.tuple #[.int .u64 0, .int .u64 n]) ∧ w = w' := by
  have a1 : bits BinOp.and IntKind.u64 (n : Int) 4294967295 = (n : Int) := and_mask ⟨n, by omega⟩
  have a2 : bits BinOp.and IntKind.u64 1 4294967295 = 1 := and_mask ⟨1, by omega⟩
  have a3 : IntKind.u64.wrap (n : Int) = (n : Int) := by rw [IntKind.wrap_u64]; omega
  have a4 : (n : Int) / 4294967296 = 0 := by omega
  have a5 : IntKind.u64.wrap 0 = 0 := by rw [IntKind.wrap_u64]; rfl
  have a6 : bits BinOp.and IntKind.u64 0 4294967295 = 0 := and_mask ⟨0, by omega⟩
  go_enter Tryz.func238, Tryz.ntmps238
  go_wp2_with fail
  go_ret2
  exact ⟨rfl, rfl⟩

set_option maxRecDepth 100000 in
set_option maxHeartbeats 8000000 in
theorem mul_any (n : Nat) (w : World) (h : n ≤ 40) :
    Calls Tryz.prog 184 #[.int .u64 1, .int .u64 n] w fun e w' => e = .returned (.tuple #[.int .u64 0, .int .u64 n]) ∧ w = w' := by
  have H := Lib.hid (mul64_any n w h)
  have a3 : IntKind.u64.wrap (n : Int) = (n : Int) := by rw [IntKind.wrap_u64]; omega
  go_enter Tryz.func184, Tryz.ntmps184
  go_wp2_with fail
  refine H.out.mono ?_
  rintro e w1 ⟨rfl, rfl⟩
  go_wp2_with fail
  go_ret2
  exact ⟨rfl, rfl⟩

/-- m times d, then noughts, n in all. -/
def repI (d : Int) (m n : Nat) : List Int := List.replicate m d ++ List.replicate (n - m) 0
theorem repCells (d : Int) (n : Nat) : (madeCells (Value.int .i64 0).cells (n * 1)).toList = ints (repI d 0 n) := by
  show (madeCells #[_] _).toList = _
  rw [toList_madeCells_one, Nat.mul_one]
  simp [repI]
theorem row_of_owns {w : World} {B g n : Nat} {e : TypeId} {cs xs : List Value} (hcs : cs = xs) (h : w.ownsRow B e 1 (.slice (some ⟨g, 0, none⟩) n n) n cs) : w.heap[g]? = some (.cells xs.toArray e) := by
  subst hcs
  rcases h.2 with ⟨e', _⟩ | ⟨g', cap, cur, e', _, hg, h1, h2, h3, h4⟩
  · cases e'
  cases e'
  rw [hg]
  congr 2
  rw [← h4]
  have : n * 1 = cur.toList.length := by simp [h3]
  rw [this, List.take_length]
theorem owns_of_row {w : World} {g n : Nat} {e : TypeId} {xs : List Value} (h : w.heap[g]? = some (.cells xs.toArray e)) (hl : xs.length = n) (hm : n ≤ maxLen) : w.ownsRow g e 1 (.slice (some ⟨g, 0, none⟩) n n) n xs := by
  subst hl
  exact ⟨by omega, .inr ⟨g, xs.length, xs.toArray, rfl, Nat.le_refl _, h, Nat.le_refl _, hm, by simp, by simp⟩⟩
theorem one_cell {w : World} {b o : Nat} {v : Value} (h : w.cell? ⟨b, o + 0, none⟩ = some v) : ∀ j u, [v][j]? = some u → w.cell? ((⟨b, o, none⟩ : Addr).add j) = some u := by
  intro j u hj
  match j, hj with
  | 0, hj =>
    simp at hj
    subst hj
    rw [Addr.add_lit]
    exact h
theorem rep_splice (d : Int) (m n q : Nat) (hq : m + q ≤ n) (hm : m ≤ n) : splice (ints (repI d m n)) m (ints (List.replicate q d)) = ints (repI d (m + q) n) := by
  unfold splice repI
  simp only [ints, ← List.map_take, ← List.map_drop, ← List.map_append]
  congr 1
  have e1 : (List.replicate m d ++ List.replicate (n - m) (0 : Int)).take m = List.replicate m d := by simp [List.take_append]
  have e2 : (List.replicate m d ++ List.replicate (n - m) (0 : Int)).drop (m + (List.map (Value.int IntKind.i64) (List.replicate q d)).length) = List.replicate (n - (m + q)) 0 := by
    simp [List.drop_append]
    omega
  rw [e1, e2, ← List.append_assoc, List.replicate_append_replicate]

set_option maxRecDepth 100000 in
set_option maxHeartbeats 8000000 in
theorem repeat_any (A : Option Addr) (c : Nat) (d : Int) (n : Nat) (w : World) (h1 : 1 ≤ n) (h : n ≤ 40) (hA : Cells w A (ints [d])) :
    Calls Tryz.prog 103 #[.slice A 1 c, .int .i64 n] w fun e w' => ∃ v, e = .returned v ∧ w'.ownsRow w.heap.size 3 1 v n (ints (List.replicate n d)) ∧ Below w.heap.size w w' := by
  obtain ⟨i0, hi, hz0, hz1, hz2⟩ := info_parts info_ri
  have H := Lib.hid (mul_any n w h)
  obtain ⟨b, o, rfl, hc⟩ := hA.at_ (k := 0) (by simp)
  have hc0 := hc 0 _ rfl
  have HC := Lib.hid hc0
  clear hc hc0 hA
  go_enter Tryz.func103, Tryz.ntmps103
  go_wp2_with fail
  refine H.out.mono ?_
  rintro e w1 ⟨rfl, rfl⟩
  go_wp2_with (first | (at_make; refine wpList_make_full _ rfl _ _ 28 rfl w.heap.size 3 i0 _ 1 Tryz.underlying28 hi hz0 hz1 _ _ _ _ n rfl rfl rfl rfl (by rw [hz2]; omega) (by unfold maxLen; omega) (Nat.le_refl _) ?_; intro w1 hown hgrow; have hbel : Below w.heap.size w w1 := (Below.refl _ _).grown hgrow (Nat.le_refl _) (by simp); have hrow := row_of_owns (repCells d n) hown; have hcw := cell_below hbel HC.out (lt_of_cell HC.out); clear hown hgrow) | (refine wpList_copy_splice rfl _ _ _ _ rfl 3 Tryz.underlying28 (by kernel_rfl) (some ⟨w.heap.size, 0, none⟩) (some ⟨b, o, none⟩) n n 1 c rfl rfl w.heap.size 0 (ints (repI d 0 n)) 3 (by exact hrow) [.int .i64 d] (by simp [Nat.min_def]; omega) (fun _ => ⟨rfl, _, rfl, one_cell hcw⟩) (by simp [repI]; omega) (by simp [Value.oneCell']) w.heap.size w (by exact hbel) (Nat.le_refl _) ?_; intro w2 hg2 hb2) | fail)
  have hg3 := hg2.out
  rw [show [Value.int .i64 d] = ints (List.replicate 1 d) from rfl, rep_splice d 0 n 1 (by omega) (by omega)] at hg3
  have HG := Lib.hid hg3
  have HB := Lib.hid hb2
  clear hg2 hg3 hb2 hrow hcw hbel
  go_loopw [8] (fun i wr => ∃ m : Nat, 1 ≤ m ∧ m ≤ n ∧ i = .int .i64 m ∧ wr.heap[w.heap.size]? = some (.cells (ints (repI d m n)).toArray 3) ∧ Below w.heap.size w wr)
    (fun i _ => n - (intOf i).toNat)
  case atStart => exact ⟨1, Nat.le_refl _, h1, rfl, HG.out, HB.out⟩
  obtain ⟨m, hm1, hm, rfl, hg, hb⟩ := hrel
  have HG1 := Lib.hid hg
  have HB1 := Lib.hid hb
  clear hg hb
  by_cases hlt : m < n
  · obtain ⟨q, hq⟩ : ∃ q, q = Nat.min m (n - m) := ⟨_, rfl⟩
    have hq1 : 1 ≤ q := by rw [hq]; simp [Nat.min_def]; split <;> omega
    have hq2 : m + q ≤ n := by rw [hq]; simp [Nat.min_def]; split <;> omega
    have hq3 : q ≤ m := by rw [hq]; exact Nat.min_le_left _ _
    have HQ := Lib.hid hq
    clear hq
    have hnm : ¬ n = m := by omega
    have hcells : ∀ j u, (ints (List.replicate q d))[j]? = some u → wr.drew.cell? ((⟨w.heap.size, 0, none⟩ : Addr).add j) = some u := by
      intro j u hj
      have hjq : j < q := by have := (List.getElem?_eq_some_iff.1 hj).1; simpa [ints] using this
      have hu : u = .int .i64 d := by
        simp [ints, List.getElem?_replicate, hjq] at hj
        exact hj.symm
      subst hu
      rw [Addr.add_lit, Nat.zero_add]
      show wr.cell? _ = _
      rw [cell_of_row wr w.heap.size j _ _ _ HG1.out]
      simp [ints, repI, List.getElem?_append, List.getElem?_replicate, show j < m by omega]
    have HCELLS := Lib.hid hcells
    clear hcells
    go_wp2_with fail
    go_region_held3 (fun _ => True) (exact True.intro) (first | (refine step_copy_splice rfl (.tmp 41) (.tmp 44) 28 28 rfl 3 Tryz.underlying28 (by kernel_rfl) (some ⟨w.heap.size, m, none⟩) (some ⟨w.heap.size, 0, none⟩) (n - m) (n - m) m n rfl rfl w.heap.size m (ints (repI d m n)) 3 (by exact HG1.out) (ints (List.replicate q d)) (by rw [HQ.out]; simp [ints]) (fun _ => ⟨rfl, _, rfl, HCELLS.out⟩) (by simp [repI, ints]; omega) (by intro v hv; simp [ints] at hv; obtain ⟨_, rfl⟩ := hv; rfl) w.heap.size w (by exact HB1.out.drew) (Nat.le_refl _) ?_; intro w3 hg3 hb3))
    have hg4 := hg3.out
    rw [rep_splice d m n q hq2 hm] at hg4
    have HG4 := Lib.hid hg4
    have HB4 := Lib.hid hb3
    have hln : (ints (List.replicate q d)).length = q := by simp [ints]
    clear hg3 hg4 hb3
    go_wp2_with fail
    go_roundw
    case rel => exact ⟨m + q, by omega, by omega, by simp [ints]; exact IntWalk.i64_in _ (by omega), HG4.out, HB4.out⟩
    simp [intOf, ints]
    have hw : IntKind.i64.wrap ((m : Int) + (q : Int)) = (m : Int) + (q : Int) := IntWalk.i64_in _ (by omega)
    rw [hw]
    omega
  obtain rfl : m = n := by omega
  have HO := Lib.hid (owns_of_row (n := m) HG1.out (by simp [repI]) (by unfold maxLen; omega))
  go_wp2_with fail
  go_ret
  exact ⟨_, rfl, by have := HO.out; rw [show repI d m m = List.replicate m d by simp [repI]] at this; exact this, HB1.out⟩

set_option maxRecDepth 100000 in
set_option maxHeartbeats 8000000 in
theorem repeat0_any (A : Option Addr) (c : Nat) (d : Int) (w : World) :
    Calls Tryz.prog 103 #[.slice A 1 c, .int .i64 0] w fun e w' => ∃ v, e = .returned v ∧ w'.ownsRow w.heap.size 3 1 v 0 (ints []) ∧ Below w.heap.size w w' := by
  obtain ⟨i0, hi, hz0, hz1, hz2⟩ := info_parts info_ri
  have H := Lib.hid (mul_any 0 w (by omega))
  go_enter Tryz.func103, Tryz.ntmps103
  go_wp2_with fail
  refine H.out.mono ?_
  rintro e w1 ⟨rfl, rfl⟩
  go_wp2_with (first | (at_make; refine wpList_make_full _ rfl _ _ 28 rfl w.heap.size 3 i0 _ 1 Tryz.underlying28 hi hz0 hz1 _ _ _ _ 0 rfl rfl rfl rfl (by rw [hz2]; omega) (by unfold maxLen; omega) (Nat.le_refl _) ?_; intro w1 hown hgrow; have hbel : Below w.heap.size w w1 := (Below.refl _ _).grown hgrow (Nat.le_refl _) (by simp); have hrow := row_of_owns (repCells d 0) hown; clear hown hgrow) | (refine wpList_copy_splice rfl _ _ _ _ rfl 3 Tryz.underlying28 (by kernel_rfl) (some ⟨w.heap.size, 0, none⟩) A 0 0 1 c rfl rfl w.heap.size 0 (ints (repI d 0 0)) 3 (by exact hrow) [] (by simp) (fun h => by simp at h) (by simp [repI]) (by simp) w.heap.size w (by exact hbel) (Nat.le_refl _) ?_; intro w2 hg2 hb2) | fail)
  have hg3 := hg2.out
  have HO := Lib.hid (owns_of_row (n := 0) (xs := []) (by exact hg3) rfl (by decide))
  have HB := Lib.hid hb2
  clear hg2 hg3 hb2 hrow hbel
  go_loopw [8] (fun i wr => i = .int .i64 0 ∧ wr = w2) (fun i _ => 0)
  case atStart => exact ⟨rfl, rfl⟩
  obtain ⟨rfl, rfl⟩ := hrel
  go_wp2_with fail
  go_ret
  exact ⟨_, rfl, HO.out, HB.out⟩

end Go.Proofs.YtijkdpdmclkmlaaGreatDoor
