/- DrawAppendChecksum, walked. -/
import Derived.Test.YtbobohfhplfpgaaDoorSDrx
import Derived.Laws.MakeOwn
import Derived.Laws.OwnMore
import Derived.Laws.IdiomStrings
set_option linter.unusedVariables false
namespace Go.Proofs.YtbobohfhplfpgaaDoor
open Go.RowKit

theorem make_u8 (x : Int) (n : Nat) (hx : x = n) (hn : n ≤ 100000) (u : World) :
    (Instr.makeSlice 22 (.int .i64 x) (.int .i64 x)).run Tryd.prog u = .ok (.slice (some ⟨u.heap.size, 0, none⟩) n n) (u.alloc (.cells (madeCells #[.int .u8 0] n) 5)) := by
  subst hx
  obtain ⟨i, hi, hzz⟩ := Option.map_eq_some_iff.1 (show (Tryd.prog.info? 5).map (fun i => (i.zero, i.size, i.bytes)) = some (some (.int .u8 0), 1, 1) by kernel_rfl)
  simp only [Prod.mk.injEq] at hzz
  obtain ⟨hz, hs, hb⟩ := hzz
  have hr := run_makeSlice (P := Tryd.prog) u 22 5 i (.int .u8 0) Tryd.underlying22 hi hz .i64 .i64 n n (by omega) (Int.le_refl _) (by rw [hs]; simp; omega) (by rw [hb]; omega) (by omega)
  rw [hs] at hr
  simpa [Value.cells] using hr
theorem conv_zeros (n : Nat) (u : World) (g : Nat) (hg : u.heap.size = g) :
    (convert 22 9 (.slice (some ⟨g, 0, none⟩) n n)).run Tryd.prog (u.alloc (.cells (madeCells #[.int .u8 0] n) 5)) = .ok (.string (ba (List.replicate n 0))) (u.alloc (.cells (madeCells #[.int .u8 0] n) 5)) := by
  subst hg
  have h := run_convert_bytes_back (P := Tryd.prog) (u.alloc (.cells (madeCells #[.int .u8 0] n) 5)) 22 9 5 ⟨u.heap.size, 0, none⟩ n (List.replicate n 0) Tryd.underlying22 Tryd.underlying5 Tryd.underlying9 (fun j hj => by
    have hj' : j < n := by simpa using hj
    have e : (⟨u.heap.size, 0, none⟩ : Addr).add j = ⟨u.heap.size, 0 + j, none⟩ := by unfold Addr.add; split <;> simp_all
    rw [e, Nat.zero_add, World.cell?_alloc_mark, ← Array.getElem?_toList, toList_madeCells_one]
    simp [hj'])
  rw [List.length_replicate] at h
  exact h

set_option maxRecDepth 100000 in
set_option maxHeartbeats 4000000 in
theorem drawAppend_any (A : Option Addr) (bs : List Int) (c : Nat) (w : World) (hA : Cells w A (u8s bs)) (hrng : ∀ x ∈ bs, 0 ≤ x ∧ x < 256) (hlen : bs.length ≤ 1000000000000) :
    Calls Tryd.prog 11 #[.slice A bs.length c] w fun e w' => ∃ l, e = .returned (.string (ba l)) ∧ l.length ≤ 4000 ∧ Below w.heap.size w w' := by
  have hC := Cur.start (c := c) hA hrng hlen
  have hb0 := (Below.refl w.heap.size w).alloc (Nat.le_refl _) (.cells #[.slice A bs.length c, .int .i64 0, .int .u64 0] 35)
  have H0 := Lib.hid (one_any w.heap.size A bs c 0 20 _ hC (by omega) (by omega))
  have HB0 := Lib.hid hb0
  clear hb0 hC hA
  go_enter Tryd.func11, Tryd.ntmps11
  go_wp2_with fail
  (with_reducible refine H0.out.mono ?_)
  rintro e w2 ⟨b, rfl, hC2, hK2⟩
  have hs2 := hK2.size
  rw [World.size_alloc] at hs2
  have hb2 : Below w.heap.size w w2 := HB0.out.trans (hK2.below (fun b h => by omega) (by simp))
  cases b with
  | true =>
    have H3 := Lib.hid (pick_any w.heap.size A bs c 2 10 w2 hC2 (by omega) (by omega))
    have HB2 := Lib.hid hb2
    clear hb2 hC2 hK2
    go_wp2_with fail
    (with_reducible refine H3.out.mono ?_)
    rintro e w4 ⟨y, rfl, hy0, hy1, hC4, hK4⟩
    have hy1 : y < 10 := hy1 (by omega)
    have hb4 := HB2.out.trans (hK4.below (B := w.heap.size) (fun b h => by omega) (by omega))
    obtain ⟨k, rfl⟩ := Int.eq_ofNat_of_zero_le hy0
    have HL := Lib.hid (show (List.replicate (3990 + k) (0 : UInt8)).length ≤ 4000 by simp; omega)
    have hmk := fun u => make_u8 (3990 + (k : Int)) (3990 + k) (by omega) (by omega) u
    have hcv := conv_zeros (3990 + k) w4 _ rfl
    have hbel : Below w.heap.size w (w4.alloc (.cells (madeCells #[.int .u8 0] (3990 + k)) 5)) := hb4.alloc hb4.size _
    have HB4 := Lib.hid hbel
    clear hC4 hK4 hb4 hbel
    go_wp2_with fail
    go_ret
    exact ⟨_, rfl, HL.out, HB4.out⟩
  | false =>
    have H3 := Lib.hid (any1_any w.heap.size A bs c 2 w2 hC2 (by omega))
    have HB2 := Lib.hid hb2
    clear hb2 hC2 hK2
    go_wp2_with fail
    (with_reducible refine H3.out.mono ?_)
    rintro e w4 ⟨l, rfl, hl, hC4, hK4⟩
    have HL := Lib.hid (show l.length ≤ 4000 by omega)
    have HB4 := Lib.hid (HB2.out.trans (hK4.below (B := w.heap.size) (fun b h => by omega) (by omega)))
    clear hC4 hK4
    go_wp2_with fail
    go_ret
    exact ⟨_, rfl, HL.out, HB4.out⟩

end Go.Proofs.YtbobohfhplfpgaaDoor
