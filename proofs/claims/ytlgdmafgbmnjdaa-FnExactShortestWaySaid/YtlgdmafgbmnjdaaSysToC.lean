/- Slices of bigraphs copied by the law package, walked. -/
import Derived.Test.YtlgdmafgbmnjdaaProg
import Derived.Test.YtlgdmafgbmnjdaaSysToB
set_option linter.unusedVariables false
namespace Go.Proofs.Ytlgdmafgbmnjdaa
open Go.RowKit

set_option maxRecDepth 100000 in
set_option maxHeartbeats 4000000 in
theorem toBigraphS_any (v : Value) (l : List Big) (w : World) (hv : RSl RBig 6 w v l) (hn : costL costBig l ≤ 16777216) :
    Calls Try.prog 37 #[v] w fun e w' => ∃ u, e = .returned u ∧ OSl OBig 6 w' (fun b => w.heap.size ≤ b ∧ b < w'.heap.size) u l ∧ Below w.heap.size w w' := by
  obtain ⟨i0, hi, hz0, hz1, hz2⟩ := info_parts info_Bigraph
  have HV := Lib.hid (show ∀ W, Below w.heap.size w W → RSl RBig 6 W v l from fun W hb => hv.below RBig_keep hb)
  obtain ⟨A, c, rfl, _⟩ := hv.form
  have hl := cost_len hn
  have HC := Lib.hid (fun x (hx : x ∈ l) => cost_at hn hx)
  clear hv hn
  go_enter Try.func37, Try.ntmps37
  go_wp2_with (first | (at_make; refine wpList_make_full _ rfl _ _ 30 rfl w.heap.size 88 i0 _ 6 Try.underlying30 hi hz0 hz1 _ _ _ _ l.length rfl rfl rfl rfl (by rw [hz2]; omega) (by unfold maxLen; omega) (Nat.le_refl _) ?_; intro w1 hown hgrow))
  have hz : (madeCells (Value.cells (.agg #[.int .i64 0, .slice none 0 0, .slice none 0 0, .int .i64 0, .slice none 0 0, .slice none 0 0])) (l.length * 6)).toList = ([] : List (List Value)).flatten ++ (List.replicate (l.length - 0) [.int .i64 0, .slice none 0 0, .slice none 0 0, .int .i64 0, .slice none 0 0, .slice none 0 0]).flatten := made_flat (Value.cells (.agg #[.int .i64 0, .slice none 0 0, .slice none 0 0, .int .i64 0, .slice none 0 0, .slice none 0 0])) l.length
  rw [hz] at hown
  have hbel : Below w.heap.size w w1 := (Below.refl _ _).grown hgrow (Nat.le_refl _) (by simp)
  clear hz hgrow
  go_loopw [4] (fun i wr => ∃ (k : Nat) (ds : List (List Value)) (T : Nat → Nat → Prop), k ≤ l.length ∧ i = .int .i64 k ∧ ds.length = k ∧
      wr.ownsRow w.heap.size 88 6 (.slice (some ⟨w.heap.size, 0, none⟩) l.length l.length) l.length (ds.flatten ++ (List.replicate (l.length - k) [.int .i64 0, .slice none 0 0, .slice none 0 0, .int .i64 0, .slice none 0 0, .slice none 0 0]).flatten) ∧ Below w.heap.size w wr ∧ (∀ cs ∈ ds, cs.length = 6) ∧
      (∀ (i : Nat) cs x, ds[i]? = some cs → l[i]? = some x → OBig wr (T i) cs x) ∧ (∀ i b, T i b → i < k ∧ w.heap.size < b ∧ b < wr.heap.size) ∧ (∀ i j b, T i b → T j b → i = j))
    (fun i _ => l.length - (intOf i).toNat)
  case atStart => exact ⟨0, [], fun _ _ => False, Nat.zero_le _, rfl, rfl, hown, hbel, (by intro cs h; cases h), (by intro i cs x h; simp at h), (by intro i b h; exact h.elim), (by intro i j b h; exact h.elim)⟩
  case round =>
    clear hown hbel
    obtain ⟨k, ds, T, hk, rfl, hdl, hown, hbel, hds, hrows, hT, hdis⟩ := hrel
    by_cases hlt : k < l.length
    · obtain ⟨b, o, c', cs, ev, hcl, hcr, hc⟩ := (HV.out wr hbel).at_ (by omega) (List.getElem?_eq_getElem hlt)
      cases ev
      have HX := Lib.hid (List.getElem?_eq_getElem hlt)
      have hcx := HC.out _ (List.getElem_mem hlt)
      generalize l[k] = x at *
      obtain ⟨nv, sv, ov, iv, rfl, hq1, hq2, hq3, hq4⟩ := hcr
      have k0 := hc 0 _ rfl
      have k1 := hc 1 _ rfl
      have k2 := hc 2 _ rfl
      have k3 := hc 3 _ rfl
      have k4 := hc 4 _ rfl
      have k5 := hc 5 _ rfl
      rw [Nat.add_zero] at k0
      rw [← Nat.add_assoc] at k1 k2 k3 k4 k5
      have HO := Lib.hid hown
      have HB := Lib.hid hbel
      have HDL := Lib.hid hdl
      have HDS := Lib.hid hds
      have HR := Lib.hid hrows
      have HT := Lib.hid hT
      have HD := Lib.hid hdis
      clear hown hbel hc hcl hdl hds hrows hT hdis
      have H := Lib.hid (toBigraph_any nv sv ov iv x wr hq1 hq2 hq3 hq4 hcx)
      go_wp2_with fail
      refine H.out.mono ?_
      rintro e w1 ⟨cs, rfl, hu, hb1⟩
      obtain ⟨mv, tv, pv, jv, S1, S2, S3, S4, rfl, ⟨o1, o2, o3, o4⟩, _⟩ := id hu
      obtain ⟨M1, n1, rfl⟩ := o1.form
      obtain ⟨M2, n2, rfl, _⟩ := id o2
      obtain ⟨M3, n3, rfl⟩ := o3.form
      obtain ⟨M4, n4, rfl⟩ := o4.form
      clear o1 o2 o3 o4
      have hag := agg_step (O := OBig) OBig_keep HO.out HDL.out hlt (show ([.int .i64 0, .slice none 0 0, .slice none 0 0, .int .i64 0, .slice none 0 0, .slice none 0 0] : List Value).length = 6 from rfl) HDS.out (show ([.int .i64 x.1, .slice M1 x.2.1.length n1, .slice M2 x.2.2.1.length n2, .int .i64 x.2.2.2.1, .slice M3 x.2.2.2.2.1.length n3, .slice M4 x.2.2.2.2.2.length n4] : List Value).length = 6 from rfl) (Nat.le_refl _) HB.out HR.out HT.out HD.out HX.out hu (fun b hb => hb) hb1
      obtain ⟨r1, r2, r3, T', r4, r5, r6⟩ := hag
      have R1 := Lib.hid r1
      have R2 := Lib.hid r2
      have R3 := Lib.hid r3
      have R4 := Lib.hid r4
      have R5 := Lib.hid r5
      have R6 := Lib.hid r6
      have hown := owns_below HO.out hb1 (Nat.le_refl _)
      have hfl : (ds.flatten ++ (List.replicate (l.length - k) ([.int .i64 0, .slice none 0 0, .slice none 0 0, .int .i64 0, .slice none 0 0, .slice none 0 0] : List Value)).flatten).length = l.length * 6 := hown.1
      have f0 := hown.cellAt (k * 6) (by omega)
      have g0 := hown.frozenAt (k * 6)
      have f1 := hown.cellAt (k * 6 + 1) (by omega)
      have g1 := hown.frozenAt (k * 6 + 1)
      have f2 := hown.cellAt (k * 6 + 2) (by omega)
      have g2 := hown.frozenAt (k * 6 + 2)
      have f3 := hown.cellAt (k * 6 + 3) (by omega)
      have g3 := hown.frozenAt (k * 6 + 3)
      have f4 := hown.cellAt (k * 6 + 4) (by omega)
      have g4 := hown.frozenAt (k * 6 + 4)
      have f5 := hown.cellAt (k * 6 + 5) (by omega)
      have g5 := hown.frozenAt (k * 6 + 5)
      rw [List.getElem?_eq_getElem (by omega)] at f0
      generalize (ds.flatten ++ (List.replicate (l.length - k) ([.int .i64 0, .slice none 0 0, .slice none 0 0, .int .i64 0, .slice none 0 0, .slice none 0 0] : List Value)).flatten)[k * 6] = y0 at f0
      rw [List.getElem?_eq_getElem (by omega)] at f1
      generalize (ds.flatten ++ (List.replicate (l.length - k) ([.int .i64 0, .slice none 0 0, .slice none 0 0, .int .i64 0, .slice none 0 0, .slice none 0 0] : List Value)).flatten)[k * 6 + 1] = y1 at f1
      rw [List.getElem?_eq_getElem (by omega)] at f2
      generalize (ds.flatten ++ (List.replicate (l.length - k) ([.int .i64 0, .slice none 0 0, .slice none 0 0, .int .i64 0, .slice none 0 0, .slice none 0 0] : List Value)).flatten)[k * 6 + 2] = y2 at f2
      rw [List.getElem?_eq_getElem (by omega)] at f3
      generalize (ds.flatten ++ (List.replicate (l.length - k) ([.int .i64 0, .slice none 0 0, .slice none 0 0, .int .i64 0, .slice none 0 0, .slice none 0 0] : List Value)).flatten)[k * 6 + 3] = y3 at f3
      rw [List.getElem?_eq_getElem (by omega)] at f4
      generalize (ds.flatten ++ (List.replicate (l.length - k) ([.int .i64 0, .slice none 0 0, .slice none 0 0, .int .i64 0, .slice none 0 0, .slice none 0 0] : List Value)).flatten)[k * 6 + 4] = y4 at f4
      rw [List.getElem?_eq_getElem (by omega)] at f5
      generalize (ds.flatten ++ (List.replicate (l.length - k) ([.int .i64 0, .slice none 0 0, .slice none 0 0, .int .i64 0, .slice none 0 0, .slice none 0 0] : List Value)).flatten)[k * 6 + 5] = y5 at f5
      clear hown hfl r1 r2 r3 r4 r5 r6 hb1
      go_wp2
      go_roundw
      case rel => exact ⟨k + 1, ds ++ ([[.int .i64 x.1, .slice M1 x.2.1.length n1, .slice M2 x.2.2.1.length n2, .int .i64 x.2.2.2.1, .slice M3 x.2.2.2.2.1.length n3, .slice M4 x.2.2.2.2.2.length n4]] : List (List Value)), T', by omega, by go_num, by rw [List.length_append, HDL.out]; rfl, R1.out, R2.out, R3.out, R4.out, R5.out, R6.out⟩
      case measure => simp [intOf]; omega
    · obtain rfl : k = l.length := by omega
      have HF := Lib.hid (agg_done (O := OBig) hown hdl hds rfl (Nat.le_refl _) hrows hT hdis)
      have HB := Lib.hid hbel
      clear hown hbel hdl hds hrows hT hdis
      go_wp2
      go_ret
      exact ⟨_, rfl, HF.out, HB.out⟩

end Go.Proofs.Ytlgdmafgbmnjdaa
