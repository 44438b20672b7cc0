/- Systems of bigraphs that a call may write; copied by the law package, walked. -/
import Derived.Test.YtlgdmafgbmnjdaaProg
import Derived.Test.YtlgdmafgbmnjdaaSys
import Derived.Test.YtlgdmafgbmnjdaaLabOwn
set_option linter.unusedVariables false
namespace Go.Proofs.Ytlgdmafgbmnjdaa
open Go.RowKit

def OBN (w : World) (S : Nat → Prop) (cs : List Value) (x : BN) : Prop := ∃ v, cs = [.int .i64 x.1, .int .i64 x.2.1, v] ∧ Own w S v x.2.2.length (ints x.2.2)
def OStr (_ : World) (_ : Nat → Prop) (cs : List Value) (x : ByteArray) : Prop := cs = [.string x]
def OBW (_ : World) (_ : Nat → Prop) (cs : List Value) (x : BW) : Prop := cs = [.string x.1, .int .i64 x.2]
theorem OBN_keep : KeepO OBN := ⟨fun _ _ _ _ _ _ ⟨v, e, h⟩ hk hd => ⟨v, e, h.kept hk hd⟩, fun _ _ _ _ _ ⟨v, e, h⟩ hs => ⟨v, e, h.mono hs⟩⟩
theorem OStr_keep : KeepO OStr := ⟨fun _ _ _ _ _ _ h _ _ => h, fun _ _ _ _ _ h _ => h⟩
theorem OBW_keep : KeepO OBW := ⟨fun _ _ _ _ _ _ h _ _ => h, fun _ _ _ _ _ h _ => h⟩
def OBig (w : World) (S : Nat → Prop) (cs : List Value) (x : Big) : Prop :=
  ∃ (nv sv ov iv : Value) (S1 S2 S3 S4 : Nat → Prop), cs = [.int .i64 x.1, nv, sv, .int .i64 x.2.2.2.1, ov, iv] ∧
    (OSl OBN 3 w S1 nv x.2.1 ∧ Own w S2 sv x.2.2.1.length (ints x.2.2.1) ∧ OSl OStr 1 w S3 ov x.2.2.2.2.1 ∧ OSl OBW 2 w S4 iv x.2.2.2.2.2) ∧
    ((∀ b, S1 b → S b) ∧ (∀ b, S2 b → S b) ∧ (∀ b, S3 b → S b) ∧ (∀ b, S4 b → S b)) ∧
    (∀ b, S1 b → ¬ S2 b ∧ ¬ S3 b ∧ ¬ S4 b) ∧ (∀ b, S2 b → ¬ S3 b ∧ ¬ S4 b) ∧ (∀ b, S3 b → ¬ S4 b)
theorem OBig_keep : KeepO OBig := by
  refine ⟨fun w w' S T cs x ⟨nv, sv, ov, iv, S1, S2, S3, S4, e, ⟨h1, h2, h3, h4⟩, ⟨a1, a2, a3, a4⟩, d⟩ hk hd => ?_, fun w S T cs x ⟨nv, sv, ov, iv, S1, S2, S3, S4, e, h, ⟨a1, a2, a3, a4⟩, d⟩ hs => ?_⟩
  · exact ⟨nv, sv, ov, iv, S1, S2, S3, S4, e, ⟨h1.kept OBN_keep hk (fun b hb => hd b (a1 b hb)), h2.kept hk (fun b hb => hd b (a2 b hb)), h3.kept OStr_keep hk (fun b hb => hd b (a3 b hb)), h4.kept OBW_keep hk (fun b hb => hd b (a4 b hb))⟩, ⟨a1, a2, a3, a4⟩, d⟩
  · exact ⟨nv, sv, ov, iv, S1, S2, S3, S4, e, h, ⟨fun b hb => hs b (a1 b hb), fun b hb => hs b (a2 b hb), fun b hb => hs b (a3 b hb), fun b hb => hs b (a4 b hb)⟩, d⟩
def OSys (w : World) (S : Nat → Prop) (v : Value) (x : Sys) : Prop :=
  ∃ (sv tv : Value) (S1 S2 : Nat → Prop), v = .agg #[sv, tv] ∧ OSl OBig 6 w S1 sv x.states ∧ Own w S2 tv x.steps.length (x.steps.flatMap tri) ∧ (∀ b, S1 b → S b) ∧ (∀ b, S2 b → S b) ∧ (∀ b, S1 b → ¬ S2 b)

theorem max_of {n : Nat} (h : n ≤ 16777216) : n ≤ maxLen := by unfold maxLen; omega
theorem OBN.r {w : World} {S : Nat → Prop} {cs : List Value} {x : BN} (h : OBN w S cs x) (hc : costBN x ≤ 16777216) : RBN w cs x := by
  obtain ⟨v, e, h⟩ := h
  exact ⟨v, e, h.ri (max_of hc)⟩
theorem cost_len {α : Type} {c : α → Nat} {l : List α} {n : Nat} (h : costL c l ≤ n) : l.length ≤ n := by unfold costL at h; omega
theorem cost_at {α : Type} {c : α → Nat} {l : List α} {n : Nat} (h : costL c l ≤ n) {x : α} (hx : x ∈ l) : c x ≤ n := Nat.le_trans (cost_mem hx) h
theorem OBig.r {w : World} {S : Nat → Prop} {cs : List Value} {x : Big} (h : OBig w S cs x) (hc : costBig x ≤ 16777216) : RBig w cs x := by
  obtain ⟨nv, sv, ov, iv, S1, S2, S3, S4, e, ⟨h1, h2, h3, h4⟩, _⟩ := h
  unfold costBig at hc
  have c1 : costL costBN x.2.1 ≤ 16777216 := by omega
  have c3 : costL costStr x.2.2.2.2.1 ≤ 16777216 := by omega
  have c4 : costL costBW x.2.2.2.2.2 ≤ 16777216 := by omega
  exact ⟨nv, sv, ov, iv, e, h1.rsl (max_of (cost_len c1)) (fun S cs y hy h => h.r (cost_at c1 hy)), h2.ri (max_of (by omega)), h3.rsl (max_of (cost_len c3)) (fun S cs y hy h => ⟨h, max_of (cost_at c3 hy)⟩), h4.rsl (max_of (cost_len c4)) (fun S cs y hy h => ⟨h, max_of (cost_at c4 hy)⟩)⟩
theorem OSys.r {w : World} {S : Nat → Prop} {v : Value} {x : Sys} (h : OSys w S v x) (hc : costSys x ≤ 16777216) : RSys w v x := by
  obtain ⟨sv, tv, S1, S2, e, h1, h2, _⟩ := h
  unfold costSys at hc
  have c1 : costL costBig x.states ≤ 16777216 := by omega
  exact ⟨sv, tv, e, h1.rsl (max_of (cost_len c1)) (fun S cs y hy h => h.r (cost_at c1 hy)), h2.ra3 (max_of (by omega))⟩
theorem OSys.kept {w w' : World} {S T : Nat → Prop} {v : Value} {x : Sys} (h : OSys w S v x) (hk : Kept T w w') (hd : ∀ b, S b → ¬ T b) : OSys w' S v x := by
  obtain ⟨sv, tv, S1, S2, e, h1, h2, a1, a2, a3⟩ := h
  exact ⟨sv, tv, S1, S2, e, h1.kept OBig_keep hk (fun b hb => hd b (a1 b hb)), h2.kept hk (fun b hb => hd b (a2 b hb)), a1, a2, a3⟩
theorem OSys.below {w w' : World} {S : Nat → Prop} {v : Value} {x : Sys} {B : Nat} (h : OSys w S v x) (hb : Below B w w') (hB : w.heap.size ≤ B) : OSys w' S v x :=
  h.kept (T := fun _ => False) ⟨hb.os, hb.tape, hb.output, hb.size, fun b hb' _ => hb.block b (by omega)⟩ (fun _ _ k => k)
theorem OSys.form {w : World} {S : Nat → Prop} {v : Value} {x : Sys} (h : OSys w S v x) : ∃ A c B d, v = .agg #[.slice A x.states.length c, .slice B x.steps.length d] := by
  obtain ⟨sv, tv, S1, S2, e, h1, ⟨B, d, e2, _⟩, _⟩ := h
  obtain ⟨A, c, e1⟩ := h1.form
  exact ⟨A, c, B, d, by rw [e, e1, e2]⟩

theorem toIntS_own (v : Value) (xs : List Int) (w : World) (hv : RI w v xs) (hn : xs.length ≤ 16777216) :
    Calls Try.prog 12 #[v] w fun e w' => ∃ u, e = .returned u ∧ Own w' (fun b => w.heap.size ≤ b ∧ b < w'.heap.size) u xs.length (ints xs) ∧ Below w.heap.size w w' := by
  obtain ⟨A, c, rfl, _, hA⟩ := hv
  refine (toIntS_any A c xs w hn hA).mono ?_
  rintro e w1 ⟨u, rfl, ho, hb⟩
  exact ⟨u, rfl, (Own.of_owns ho).mono (fun b hb => ho.lt b hb), hb⟩
theorem toIntA3S_own (v : Value) (l : List I3) (w : World) (hv : RA3 w v l) (hn : l.length ≤ 16777216) :
    Calls Try.prog 38 #[v] w fun e w' => ∃ u, e = .returned u ∧ Own w' (fun b => w.heap.size ≤ b ∧ b < w'.heap.size) u l.length (l.flatMap tri) ∧ Below w.heap.size w w' := by
  refine (toIntA3S_any v l w hv hn).mono ?_
  rintro e w1 ⟨u, rfl, ho, hb⟩
  exact ⟨u, rfl, (Own.of_owns ho).mono (fun b hb => ho.lt b hb), hb⟩

theorem bodyBelow {w : World} {o1 o2 o3 : Obj} : Below w.heap.size w (((w.alloc o1).alloc o2).alloc o3) := (((Below.refl _ _).alloc (Nat.le_refl _) o1).alloc (by simp) o2).alloc (by simp; omega) o3

set_option maxHeartbeats 2000000 in
theorem toNode_any (v : Value) (x : BN) (w : World) (hv : RI w v x.2.2) (hn : costBN x ≤ 16777216) :
    Calls Try.prog 104 #[.agg #[.int .i64 x.1, .int .i64 x.2.1, v]] w fun e w' => ∃ u, e = .returned (.agg #[.int .i64 x.1, .int .i64 x.2.1, u]) ∧ Own w' (fun b => w.heap.size ≤ b ∧ b < w'.heap.size) u x.2.2.length (ints x.2.2) ∧ Below w.heap.size w w' := by
  have HV := Lib.hid (show ∀ W, Below w.heap.size w W → RI W v x.2.2 from fun W hb => hv.below hb)
  clear hv
  go_enter Try.func104, Try.ntmps104
  go_wp2_with fail
  refine (toIntS_own v x.2.2 _ (HV.out _ (by repeat (first | with_reducible exact bodyBelow | refine Below.setCell ?_ (by simp; try omega) _))) hn).mono ?_
  rintro e w1 ⟨u1, rfl, ho1, hw1⟩
  obtain ⟨A1, d1, rfl, _⟩ := id ho1
  have hz1 : Below w.heap.size w w1 := Below.trans bodyBelow (hw1.mono (by simp; try omega))
  obtain ⟨b0, b1, b2, bz⟩ := three_boxes hw1
  have hsz1 := hw1.size
  simp only [World.size_setCell, World.size_alloc] at hsz1 ho1
  have k0 : w1.cell? ⟨w.heap.size + 1 + 1, 0, none⟩ = some (.int .i64 x.1) := cell_of_row _ _ _ _ _ _ b2
  have f0 := frozen_of_row w1 _ 0 _ _ b2
  have k1 : w1.cell? ⟨w.heap.size + 1 + 1, 1, none⟩ = some (.int .i64 x.2.1) := cell_of_row _ _ _ _ _ _ b2
  have f1 := frozen_of_row w1 _ 1 _ _ b2
  have k2 : w1.cell? ⟨w.heap.size + 1 + 1, 2, none⟩ = some (.slice none 0 0) := cell_of_row _ _ _ _ _ _ b2
  have f2 := frozen_of_row w1 _ 2 _ _ b2
  have m0 : w1.cell? ⟨w.heap.size + 1, 0, none⟩ = some (.int .i64 0) := cell_of_row _ _ _ _ _ _ b1
  have g0 := frozen_of_row w1 _ 0 _ _ b1
  have m1 : w1.cell? ⟨w.heap.size + 1, 1, none⟩ = some (.int .i64 0) := cell_of_row _ _ _ _ _ _ b1
  have g1 := frozen_of_row w1 _ 1 _ _ b1
  have m2 : w1.cell? ⟨w.heap.size + 1, 2, none⟩ = some (.slice none 0 0) := cell_of_row _ _ _ _ _ _ b1
  have g2 := frozen_of_row w1 _ 2 _ _ b1
  have B0 := Lib.hid b0
  have B1 := Lib.hid b1
  have B2 := Lib.hid b2
  have BZ := bz
  have HO1 := Lib.hid ho1
  clear b0 b1 b2 bz ho1 hw1 
  go_wp2_with fail
  refine bodyPost_ret (v := .agg #[.int .i64 x.1, .int .i64 x.2.1, .slice A1 x.2.2.length d1]) (by simp [results, Try.results104, go_sem, *]) rfl ⟨_, rfl, ?_, ?_⟩
  · exact (HO1.out.kept (show Kept (fun b => b < w.heap.size + 1 + 1 + 1) w1 _ by repeat (first | with_reducible exact Kept.refl _ _ | refine Kept.setCell ?_ (by simp; try omega) _)) (fun b hb => by omega)).mono (fun b hb => by simp; omega)
  · repeat (first | with_reducible exact hz1 | refine Below.setCell ?_ (by simp; try omega) _)

set_option maxHeartbeats 1000000 in
theorem toWire_any (x : BW) (w : World) :
    Calls Try.prog 105 #[.agg #[.string x.1, .int .i64 x.2]] w fun e w' => e = .returned (.agg #[.string x.1, .int .i64 x.2]) ∧ Below w.heap.size w w' := by
  obtain ⟨a, b⟩ := x
  go_enter Try.func105, Try.ntmps105
  go_wp2
  refine bodyPost_ret (v := .agg #[.string a, .int .i64 b]) (by simp [results, Try.results105, go_sem, *]) rfl ⟨rfl, ?_⟩
  repeat (first | exact Below.refl _ _ | (refine Below.setCell ?_ (by simp; try omega) _) | (refine Below.alloc ?_ (by simp; try omega) _))

theorem info_Node : (Try.prog.info? 116).map (fun i => (i.zero, i.size, i.bytes)) = some (some (.agg #[.int .i64 0, .int .i64 0, .slice none 0 0]), 3, 40) := by kernel_rfl
theorem info_Wire : (Try.prog.info? 119).map (fun i => (i.zero, i.size, i.bytes)) = some (some (.agg #[.string ⟨#[]⟩, .int .i64 0]), 2, 24) := by kernel_rfl
theorem info_String : (Try.prog.info? 9).map (fun i => (i.zero, i.size, i.bytes)) = some (some (.string ⟨#[]⟩), 1, 16) := by kernel_rfl
theorem info_Bigraph : (Try.prog.info? 88).map (fun i => (i.zero, i.size, i.bytes)) = some (some (.agg #[.int .i64 0, .slice none 0 0, .slice none 0 0, .int .i64 0, .slice none 0 0, .slice none 0 0]), 6, 112) := by kernel_rfl

set_option maxRecDepth 100000 in
set_option maxHeartbeats 4000000 in
theorem toNodeS_any (v : Value) (l : List BN) (w : World) (hv : RSl RBN 3 w v l) (hn : costL costBN l ≤ 16777216) :
    Calls Try.prog 89 #[v] w fun e w' => ∃ u, e = .returned u ∧ OSl OBN 3 w' (fun b => w.heap.size ≤ b ∧ b < w'.heap.size) u l ∧ Below w.heap.size w w' := by
  obtain ⟨i0, hi, hz0, hz1, hz2⟩ := info_parts info_Node
  have HV := Lib.hid (show ∀ W, Below w.heap.size w W → RSl RBN 3 W v l from fun W hb => hv.below RBN_keep hb)
  obtain ⟨A, c, rfl, _⟩ := hv.form
  have hl := cost_len hn
  have HC := Lib.hid (fun x (hx : x ∈ l) => cost_at hn hx)
  clear hv hn
  go_enter Try.func89, Try.ntmps89
  go_wp2_with (first | (at_make; refine wpList_make_full _ rfl _ _ 85 rfl w.heap.size 116 i0 _ 3 Try.underlying85 hi hz0 hz1 _ _ _ _ l.length rfl rfl rfl rfl (by rw [hz2]; omega) (by unfold maxLen; omega) (Nat.le_refl _) ?_; intro w1 hown hgrow))
  have hz : (madeCells (Value.cells (.agg #[.int .i64 0, .int .i64 0, .slice none 0 0])) (l.length * 3)).toList = ([] : List (List Value)).flatten ++ (List.replicate (l.length - 0) [.int .i64 0, .int .i64 0, .slice none 0 0]).flatten := made_flat (Value.cells (.agg #[.int .i64 0, .int .i64 0, .slice none 0 0])) l.length
  rw [hz] at hown
  have hbel : Below w.heap.size w w1 := (Below.refl _ _).grown hgrow (Nat.le_refl _) (by simp)
  clear hz hgrow
  go_loopw [4] (fun i wr => ∃ (k : Nat) (ds : List (List Value)) (T : Nat → Nat → Prop), k ≤ l.length ∧ i = .int .i64 k ∧ ds.length = k ∧
      wr.ownsRow w.heap.size 116 3 (.slice (some ⟨w.heap.size, 0, none⟩) l.length l.length) l.length (ds.flatten ++ (List.replicate (l.length - k) [.int .i64 0, .int .i64 0, .slice none 0 0]).flatten) ∧ Below w.heap.size w wr ∧ (∀ cs ∈ ds, cs.length = 3) ∧
      (∀ (i : Nat) cs x, ds[i]? = some cs → l[i]? = some x → OBN wr (T i) cs x) ∧ (∀ i b, T i b → i < k ∧ w.heap.size < b ∧ b < wr.heap.size) ∧ (∀ i j b, T i b → T j b → i = j))
    (fun i _ => l.length - (intOf i).toNat)
  case atStart => exact ⟨0, [], fun _ _ => False, Nat.zero_le _, rfl, rfl, hown, hbel, (by intro cs h; cases h), (by intro i cs x h; simp at h), (by intro i b h; exact h.elim), (by intro i j b h; exact h.elim)⟩
  case round =>
    clear hown hbel
    obtain ⟨k, ds, T, hk, rfl, hdl, hown, hbel, hds, hrows, hT, hdis⟩ := hrel
    by_cases hlt : k < l.length
    · obtain ⟨b, o, c', cs, ev, hcl, hcr, hc⟩ := (HV.out wr hbel).at_ (by omega) (List.getElem?_eq_getElem hlt)
      cases ev
      have HX := Lib.hid (List.getElem?_eq_getElem hlt)
      have hcx := HC.out _ (List.getElem_mem hlt)
      generalize l[k] = x at *
      obtain ⟨lv, rfl, hlv⟩ := hcr
      have k0 := hc 0 _ rfl
      have k1 := hc 1 _ rfl
      have k2 := hc 2 _ rfl
      rw [Nat.add_zero] at k0
      rw [← Nat.add_assoc] at k1 k2
      have HO := Lib.hid hown
      have HB := Lib.hid hbel
      have HDL := Lib.hid hdl
      have HDS := Lib.hid hds
      have HR := Lib.hid hrows
      have HT := Lib.hid hT
      have HD := Lib.hid hdis
      clear hown hbel hc hcl hdl hds hrows hT hdis
      have H := Lib.hid (toNode_any lv x wr hlv hcx)
      go_wp2_with fail
      refine H.out.mono ?_
      rintro e w1 ⟨u, rfl, hu, hb1⟩
      obtain ⟨A9, e9, rfl, _⟩ := id hu
      have hag := agg_step (O := OBN) OBN_keep HO.out HDL.out hlt (show ([.int .i64 0, .int .i64 0, .slice none 0 0] : List Value).length = 3 from rfl) HDS.out (show ([.int .i64 x.1, .int .i64 x.2.1, .slice A9 x.2.2.length e9] : List Value).length = 3 from rfl) (Nat.le_refl _) HB.out HR.out HT.out HD.out HX.out (show OBN w1 _ _ x from ⟨_, rfl, hu⟩) (fun b hb => hb) hb1
      obtain ⟨r1, r2, r3, T', r4, r5, r6⟩ := hag
      have R1 := Lib.hid r1
      have R2 := Lib.hid r2
      have R3 := Lib.hid r3
      have R4 := Lib.hid r4
      have R5 := Lib.hid r5
      have R6 := Lib.hid r6
      have hown := owns_below HO.out hb1 (Nat.le_refl _)
      have hfl : (ds.flatten ++ (List.replicate (l.length - k) ([.int .i64 0, .int .i64 0, .slice none 0 0] : List Value)).flatten).length = l.length * 3 := hown.1
      have f0 := hown.cellAt (k * 3) (by omega)
      have g0 := hown.frozenAt (k * 3)
      have f1 := hown.cellAt (k * 3 + 1) (by omega)
      have g1 := hown.frozenAt (k * 3 + 1)
      have f2 := hown.cellAt (k * 3 + 2) (by omega)
      have g2 := hown.frozenAt (k * 3 + 2)
      rw [List.getElem?_eq_getElem (by omega)] at f0
      generalize (ds.flatten ++ (List.replicate (l.length - k) ([.int .i64 0, .int .i64 0, .slice none 0 0] : List Value)).flatten)[k * 3] = y0 at f0
      rw [List.getElem?_eq_getElem (by omega)] at f1
      generalize (ds.flatten ++ (List.replicate (l.length - k) ([.int .i64 0, .int .i64 0, .slice none 0 0] : List Value)).flatten)[k * 3 + 1] = y1 at f1
      rw [List.getElem?_eq_getElem (by omega)] at f2
      generalize (ds.flatten ++ (List.replicate (l.length - k) ([.int .i64 0, .int .i64 0, .slice none 0 0] : List Value)).flatten)[k * 3 + 2] = y2 at f2
      clear hown hfl r1 r2 r3 r4 r5 r6 hb1
      go_wp2
      go_roundw
      case rel => exact ⟨k + 1, ds ++ ([[.int .i64 x.1, .int .i64 x.2.1, .slice A9 x.2.2.length e9]] : List (List Value)), T', by omega, by go_num, by rw [List.length_append, HDL.out]; rfl, R1.out, R2.out, R3.out, R4.out, R5.out, R6.out⟩
      case measure => simp [intOf]; omega
    · obtain rfl : k = l.length := by omega
      have HF := Lib.hid (agg_done (O := OBN) hown hdl hds rfl (Nat.le_refl _) hrows hT hdis)
      have HB := Lib.hid hbel
      clear hown hbel hdl hds hrows hT hdis
      go_wp2
      go_ret
      exact ⟨_, rfl, HF.out, HB.out⟩

set_option maxRecDepth 100000 in
set_option maxHeartbeats 4000000 in
theorem toWireS_any (v : Value) (l : List BW) (w : World) (hv : RSl RBW 2 w v l) (hn : costL costBW l ≤ 16777216) :
    Calls Try.prog 91 #[v] w fun e w' => ∃ u, e = .returned u ∧ OSl OBW 2 w' (fun b => w.heap.size ≤ b ∧ b < w'.heap.size) u l ∧ Below w.heap.size w w' := by
  obtain ⟨i0, hi, hz0, hz1, hz2⟩ := info_parts info_Wire
  have HV := Lib.hid (show ∀ W, Below w.heap.size w W → RSl RBW 2 W v l from fun W hb => hv.below RBW_keep hb)
  obtain ⟨A, c, rfl, _⟩ := hv.form
  have hl := cost_len hn
  have HC := Lib.hid (fun x (hx : x ∈ l) => cost_at hn hx)
  clear hv hn
  go_enter Try.func91, Try.ntmps91
  go_wp2_with (first | (at_make; refine wpList_make_full _ rfl _ _ 86 rfl w.heap.size 119 i0 _ 2 Try.underlying86 hi hz0 hz1 _ _ _ _ l.length rfl rfl rfl rfl (by rw [hz2]; omega) (by unfold maxLen; omega) (Nat.le_refl _) ?_; intro w1 hown hgrow))
  have hz : (madeCells (Value.cells (.agg #[.string ⟨#[]⟩, .int .i64 0])) (l.length * 2)).toList = ([] : List (List Value)).flatten ++ (List.replicate (l.length - 0) [.string ⟨#[]⟩, .int .i64 0]).flatten := made_flat (Value.cells (.agg #[.string ⟨#[]⟩, .int .i64 0])) l.length
  rw [hz] at hown
  have hbel : Below w.heap.size w w1 := (Below.refl _ _).grown hgrow (Nat.le_refl _) (by simp)
  clear hz hgrow
  go_loopw [4] (fun i wr => ∃ (k : Nat) (ds : List (List Value)) (T : Nat → Nat → Prop), k ≤ l.length ∧ i = .int .i64 k ∧ ds.length = k ∧
      wr.ownsRow w.heap.size 119 2 (.slice (some ⟨w.heap.size, 0, none⟩) l.length l.length) l.length (ds.flatten ++ (List.replicate (l.length - k) [.string ⟨#[]⟩, .int .i64 0]).flatten) ∧ Below w.heap.size w wr ∧ (∀ cs ∈ ds, cs.length = 2) ∧
      (∀ (i : Nat) cs x, ds[i]? = some cs → l[i]? = some x → OBW wr (T i) cs x) ∧ (∀ i b, T i b → i < k ∧ w.heap.size < b ∧ b < wr.heap.size) ∧ (∀ i j b, T i b → T j b → i = j))
    (fun i _ => l.length - (intOf i).toNat)
  case atStart => exact ⟨0, [], fun _ _ => False, Nat.zero_le _, rfl, rfl, hown, hbel, (by intro cs h; cases h), (by intro i cs x h; simp at h), (by intro i b h; exact h.elim), (by intro i j b h; exact h.elim)⟩
  case round =>
    clear hown hbel
    obtain ⟨k, ds, T, hk, rfl, hdl, hown, hbel, hds, hrows, hT, hdis⟩ := hrel
    by_cases hlt : k < l.length
    · obtain ⟨b, o, c', cs, ev, hcl, hcr, hc⟩ := (HV.out wr hbel).at_ (by omega) (List.getElem?_eq_getElem hlt)
      cases ev
      have HX := Lib.hid (List.getElem?_eq_getElem hlt)
      have hcx := HC.out _ (List.getElem_mem hlt)
      generalize l[k] = x at *
      obtain ⟨rfl, hbm⟩ := hcr
      have k0 := hc 0 _ rfl
      have k1 := hc 1 _ rfl
      rw [Nat.add_zero] at k0
      rw [← Nat.add_assoc] at k1
      have HO := Lib.hid hown
      have HB := Lib.hid hbel
      have HDL := Lib.hid hdl
      have HDS := Lib.hid hds
      have HR := Lib.hid hrows
      have HT := Lib.hid hT
      have HD := Lib.hid hdis
      clear hown hbel hc hcl hdl hds hrows hT hdis
      have H := Lib.hid (toWire_any x wr)
      go_wp2_with fail
      refine H.out.mono ?_
      rintro e w1 ⟨rfl, hb1⟩
      have hag := agg_step (O := OBW) OBW_keep HO.out HDL.out hlt (show ([.string ⟨#[]⟩, .int .i64 0] : List Value).length = 2 from rfl) HDS.out (show ([.string x.1, .int .i64 x.2] : List Value).length = 2 from rfl) (Nat.le_refl _) HB.out HR.out HT.out HD.out HX.out (Tn := fun _ => False) (show OBW w1 _ _ x from rfl) (fun b hb => hb.elim) hb1
      obtain ⟨r1, r2, r3, T', r4, r5, r6⟩ := hag
      have R1 := Lib.hid r1
      have R2 := Lib.hid r2
      have R3 := Lib.hid r3
      have R4 := Lib.hid r4
      have R5 := Lib.hid r5
      have R6 := Lib.hid r6
      have hown := owns_below HO.out hb1 (Nat.le_refl _)
      have hfl : (ds.flatten ++ (List.replicate (l.length - k) ([.string ⟨#[]⟩, .int .i64 0] : List Value)).flatten).length = l.length * 2 := hown.1
      have f0 := hown.cellAt (k * 2) (by omega)
      have g0 := hown.frozenAt (k * 2)
      have f1 := hown.cellAt (k * 2 + 1) (by omega)
      have g1 := hown.frozenAt (k * 2 + 1)
      rw [List.getElem?_eq_getElem (by omega)] at f0
      generalize (ds.flatten ++ (List.replicate (l.length - k) ([.string ⟨#[]⟩, .int .i64 0] : List Value)).flatten)[k * 2] = y0 at f0
      rw [List.getElem?_eq_getElem (by omega)] at f1
      generalize (ds.flatten ++ (List.replicate (l.length - k) ([.string ⟨#[]⟩, .int .i64 0] : List Value)).flatten)[k * 2 + 1] = y1 at f1
      clear hown hfl r1 r2 r3 r4 r5 r6 hb1
      go_wp2
      go_roundw
      case rel => exact ⟨k + 1, ds ++ ([[.string x.1, .int .i64 x.2]] : List (List Value)), T', by omega, by go_num, by rw [List.length_append, HDL.out]; rfl, R1.out, R2.out, R3.out, R4.out, R5.out, R6.out⟩
      case measure => simp [intOf]; omega
    · obtain rfl : k = l.length := by omega
      have HF := Lib.hid (agg_done (O := OBW) hown hdl hds rfl (Nat.le_refl _) hrows hT hdis)
      have HB := Lib.hid hbel
      clear hown hbel hdl hds hrows hT hdis
      go_wp2
      go_ret
      exact ⟨_, rfl, HF.out, HB.out⟩

set_option maxRecDepth 100000 in
set_option maxHeartbeats 4000000 in
theorem toStringS_any (v : Value) (l : List ByteArray) (w : World) (hv : RSl RStr 1 w v l) (hn : costL costStr l ≤ 16777216) :
    Calls Try.prog 90 #[v] w fun e w' => ∃ u, e = .returned u ∧ OSl OStr 1 w' (fun b => w.heap.size ≤ b ∧ b < w'.heap.size) u l ∧ Below w.heap.size w w' := by
  obtain ⟨i0, hi, hz0, hz1, hz2⟩ := info_parts info_String
  have HV := Lib.hid (show ∀ W, Below w.heap.size w W → RSl RStr 1 W v l from fun W hb => hv.below RStr_keep hb)
  obtain ⟨A, c, rfl, _⟩ := hv.form
  have hl := cost_len hn
  have HC := Lib.hid (fun x (hx : x ∈ l) => cost_at hn hx)
  clear hv hn
  go_enter Try.func90, Try.ntmps90
  go_wp2_with (first | (at_make; refine wpList_make_full _ rfl _ _ 80 rfl w.heap.size 9 i0 _ 1 Try.underlying80 hi hz0 hz1 _ _ _ _ l.length rfl rfl rfl rfl (by rw [hz2]; omega) (by unfold maxLen; omega) (Nat.le_refl _) ?_; intro w1 hown hgrow))
  have hz : (madeCells (Value.cells (.string ⟨#[]⟩)) (l.length * 1)).toList = ([] : List (List Value)).flatten ++ (List.replicate (l.length - 0) [.string ⟨#[]⟩]).flatten := made_flat (Value.cells (.string ⟨#[]⟩)) l.length
  rw [hz] at hown
  have hbel : Below w.heap.size w w1 := (Below.refl _ _).grown hgrow (Nat.le_refl _) (by simp)
  clear hz hgrow
  go_loopw [4] (fun i wr => ∃ (k : Nat) (ds : List (List Value)) (T : Nat → Nat → Prop), k ≤ l.length ∧ i = .int .i64 k ∧ ds.length = k ∧
      wr.ownsRow w.heap.size 9 1 (.slice (some ⟨w.heap.size, 0, none⟩) l.length l.length) l.length (ds.flatten ++ (List.replicate (l.length - k) [.string ⟨#[]⟩]).flatten) ∧ Below w.heap.size w wr ∧ (∀ cs ∈ ds, cs.length = 1) ∧
      (∀ (i : Nat) cs x, ds[i]? = some cs → l[i]? = some x → OStr wr (T i) cs x) ∧ (∀ i b, T i b → i < k ∧ w.heap.size < b ∧ b < wr.heap.size) ∧ (∀ i j b, T i b → T j b → i = j))
    (fun i _ => l.length - (intOf i).toNat)
  case atStart => exact ⟨0, [], fun _ _ => False, Nat.zero_le _, rfl, rfl, hown, hbel, (by intro cs h; cases h), (by intro i cs x h; simp at h), (by intro i b h; exact h.elim), (by intro i j b h; exact h.elim)⟩
  case round =>
    clear hown hbel
    obtain ⟨k, ds, T, hk, rfl, hdl, hown, hbel, hds, hrows, hT, hdis⟩ := hrel
    by_cases hlt : k < l.length
    · obtain ⟨b, o, c', cs, ev, hcl, hcr, hc⟩ := (HV.out wr hbel).at_ (by omega) (List.getElem?_eq_getElem hlt)
      cases ev
      have HX := Lib.hid (List.getElem?_eq_getElem hlt)
      have hcx := HC.out _ (List.getElem_mem hlt)
      generalize l[k] = x at *
      obtain ⟨rfl, hbm⟩ := hcr
      have k0 := hc 0 _ rfl
      rw [Nat.add_zero, Nat.mul_one] at k0
      have HO := Lib.hid hown
      have HB := Lib.hid hbel
      have HDL := Lib.hid hdl
      have HDS := Lib.hid hds
      have HR := Lib.hid hrows
      have HT := Lib.hid hT
      have HD := Lib.hid hdis
      clear hown hbel hc hcl hdl hds hrows hT hdis
      have hb1 : Below wr.heap.size wr wr := Below.refl _ _
      have hag := agg_step (O := OStr) OStr_keep HO.out HDL.out hlt (show ([.string ⟨#[]⟩] : List Value).length = 1 from rfl) HDS.out (show ([.string x] : List Value).length = 1 from rfl) (Nat.le_refl _) HB.out HR.out HT.out HD.out HX.out (Tn := fun _ => False) (show OStr wr _ _ x from rfl) (fun b hb => hb.elim) hb1
      obtain ⟨r1, r2, r3, T', r4, r5, r6⟩ := hag
      simp only [Nat.mul_one] at r1 r2 r4 r5
      have R1 := Lib.hid r1
      have R2 := Lib.hid r2
      have R3 := Lib.hid r3
      have R4 := Lib.hid r4
      have R5 := Lib.hid r5
      have R6 := Lib.hid r6
      have hown := owns_below HO.out hb1 (Nat.le_refl _)
      have hfl : (ds.flatten ++ (List.replicate (l.length - k) ([.string ⟨#[]⟩] : List Value)).flatten).length = l.length * 1 := hown.1
      have f0 := hown.cellAt (k) (by omega)
      have g0 := hown.frozenAt (k)
      rw [List.getElem?_eq_getElem (by omega)] at f0
      generalize (ds.flatten ++ (List.replicate (l.length - k) ([.string ⟨#[]⟩] : List Value)).flatten)[k] = y0 at f0
      clear hown hfl r1 r2 r3 r4 r5 r6 hb1
      go_wp2
      go_roundw
      case rel => exact ⟨k + 1, ds ++ ([[.string x]] : List (List Value)), T', by omega, by go_num, by rw [List.length_append, HDL.out]; rfl, R1.out, R2.out, R3.out, R4.out, R5.out, R6.out⟩
      case measure => simp [intOf]; omega
    · obtain rfl : k = l.length := by omega
      have HF := Lib.hid (agg_done (O := OStr) hown hdl hds rfl (Nat.le_refl _) hrows hT hdis)
      have HB := Lib.hid hbel
      clear hown hbel hdl hds hrows hT hdis
      go_wp2
      go_ret
      exact ⟨_, rfl, HF.out, HB.out⟩

end Go.Proofs.Ytlgdmafgbmnjdaa
