/- The program's decimal numbers: dec, readDec, FormatInt, ParseInt, walked. -/
import Derived.Test.YtbobohfhplfpgaaDoorProg
import Derived.Test.YtbobohfhplfpgaaDoorStrL
import Derived.Test.YtbobohfhplfpgaaDoorBase
import Derived.Test.YtbobohfhplfpgaaDoorSNum
import Derived.Test.YtbobohfhplfpgaaDoorShelfT
import Derived.Lib.Hide
import Derived.Lib.AppendIntMem
import Derived.Lib.SmallJoins
import Derived.IntWalk
import Derived.Laws.Strings
import Derived.BigQuiet
import Derived.WalkKit
set_option linter.unusedVariables false
namespace Go.Proofs.YtbobohfhplfpgaaDoor
open Go.RowKit

theorem below_cellOf {B : Nat} {w w' : World} (h : Below B w w') {a : Addr} {v : Value} (hc : w.cell? a = some v) (hB : w.heap.size ≤ B) : w'.cell? a = some v := by
  have hlt : a.block < w.heap.size := by
    by_cases hl : a.block < w.heap.size
    · exact hl
    · exfalso
      unfold World.cell? at hc
      rw [Array.getElem?_eq_none (by omega)] at hc
      simp at hc
  rw [h.cell (by omega)]
  exact hc

/-- What the library's tables and signs hold. -/
structure SW (w : World) : Prop where
  tab : Lib.TabIs Tryd.prog w "internal/strconv.uint64pow10" .u64 Lib.pow10Tab
  syn : ∃ te pe, w.cell? ⟨(Tryd.laysC172_ren.g 15), 0, none⟩ = some (.iface te pe)
  rng : ∃ te pe, w.cell? ⟨(Tryd.laysC172_ren.g 16), 0, none⟩ = some (.iface te pe)
theorem SW.below {w w' : World} (h : SW w) (hb : Below w.heap.size w w') : SW w' :=
  ⟨Lib.tabBelow_of_tabIs h.tab w' hb, by obtain ⟨te, pe, hc⟩ := h.syn; exact ⟨te, pe, below_cellOf hb hc (Nat.le_refl _)⟩, by obtain ⟨te, pe, hc⟩ := h.rng; exact ⟨te, pe, below_cellOf hb hc (Nat.le_refl _)⟩⟩

theorem decI_any (n : Int) (w : World) (hw : SW w) (h0 : -9223372036854775808 ≤ n) (h1 : n ≤ 9223372036854775807) :
    Calls Tryd.prog 19 #[.int .i64 n] w fun e w' => e = .returned (.string (ba (Lib.itoa n))) ∧ Below w.heap.size w w' := by
  have H := Lib.hid (Any.strconv_Itoa Tryd.laysM171 n h0 h1 w hw.tab)
  have HB := Lib.hid (fun k os => Lib.below_grow w.heap.size w (Nat.le_refl _) k os)
  clear hw
  go_enter Tryd.func19, Tryd.ntmps19
  go_wp2_with fail
  refine H.out.mono ?_
  rintro e w1 ⟨rfl, k, os, rfl⟩
  generalize hwr : Go.Sort.grow (w.drewN k) os = wr
  have HW := Lib.hid (show Below w.heap.size w wr from hwr ▸ HB.out k os)
  clear hwr
  go_wp2_with fail
  go_ret
  exact ⟨rfl, HW.out⟩

/-- What readDec answers. -/
def RI (s : List UInt8) (v : Int) (ok : Bool) : Prop :=
  (ok = true ∧ Lib.atoiAll s = .ok v ∧ Lib.itoa v = s) ∨ (ok = false ∧ v = 0 ∧ ∀ u, Lib.atoiAll s = .ok u → Lib.itoa u ≠ s)
theorem RI.rd {s : List UInt8} {v : Int} {ok : Bool} (h : RI s v ok) : if ok = true ∧ -999999 ≤ v ∧ v ≤ 999999 then RD s v true else RD s 0 false := by
  rcases h with ⟨rfl, h1, h2⟩ | ⟨rfl, rfl, h1⟩
  · by_cases h : -999999 ≤ v ∧ v ≤ 999999
    · rw [if_pos ⟨rfl, h⟩]
      exact Or.inl ⟨rfl, h2, h⟩
    · rw [if_neg (fun k => h k.2)]
      exact rd_other h1 (Or.inr h)
  · rw [if_neg (fun k => by cases k.1)]
    cases h : Lib.atoiAll s with
    | ok u => exact rd_other h (Or.inl (h1 u h))
    | _ => exact rd_none (fun v hv => by rw [h] at hv; cases hv)

set_option maxRecDepth 100000 in
set_option maxHeartbeats 4000000 in
theorem readDec_any (l : List UInt8) (w : World) (hw : SW w) (hl : l.length ≤ 1000000) :
    Calls Tryd.prog 24 #[.string (ba l)] w fun e w' => (∃ v ok, e = .returned (.tuple #[.int .i64 v, .bool ok]) ∧ RI l v ok) ∧ Below w.heap.size w w' := by
  have hsz : (ba l).size ≤ 1000000 := by simpa [ba, ByteArray.size] using hl
  have hlist : (ba l).data.toList = l := ba_list l
  obtain ⟨S, hS⟩ : ∃ S, S = ba l := ⟨_, rfl⟩
  rw [← hS] at hsz hlist ⊢
  have HS := Lib.hid hS
  have HL := Lib.hid hlist
  clear hS
  cases ha : Lib.atoiAll l with
  | ok v =>
    have H := Lib.hid (Any.strconv_Atoi_ok Tryd.laysC172 S (by omega) v (by rw [hlist]; exact ha) w)
    have HA := Lib.hid ha
    have HW := Lib.hid hw
    have hv : -9223372036854775808 ≤ v ∧ v ≤ 9223372036854775807 := atoi_int ha
    clear hlist ha hw
    go_enter Tryd.func24, Tryd.ntmps24
    go_wp2_with fail
    refine H.out.mono ?_
    rintro e w1 ⟨rfl, h1⟩
    have HB := Lib.hid (show Below w.heap.size w w1 by
      rcases h1 with rfl | ⟨t, rfl⟩
      · exact Below.refl _ _
      · exact Joins.below_bytesWorld _ _ _ _ (Nat.le_refl _))
    clear h1
    have HD := Lib.hid (decI_any v w1 (HW.out.below HB.out) hv.1 hv.2)
    go_wp2_with fail
    refine HD.out.mono ?_
    rintro e w2 ⟨rfl, h2⟩
    have HB2 := Lib.hid (HB.out.trans (h2.mono HB.out.size))
    clear h2
    by_cases hs : Lib.itoa v = l
    · have hne : ba (Lib.itoa v) = S := by rw [HS.out, hs]
      rw [hne]
      have hf := str_eq S
      go_wp2_with fail
      go_ret2
      exact ⟨⟨_, _, rfl, Or.inl ⟨rfl, HA.out, hs⟩⟩, HB2.out⟩
    · have hne : ¬ (ba (Lib.itoa v) = S) := fun h => hs (by rw [← ba_list (Lib.itoa v), h, HL.out])
      obtain ⟨Z, hZ⟩ : ∃ Z, Z = ba (Lib.itoa v) := ⟨_, rfl⟩
      rw [← hZ] at hne ⊢
      clear hZ
      have hf := str_ne hne
      go_wp2_with fail
      go_ret2
      exact ⟨⟨_, _, rfl, Or.inr ⟨rfl, rfl, fun u hu => by rw [HA.out] at hu; injection hu with hu; exact hu ▸ hs⟩⟩, HB2.out⟩
  | range =>
    have H := Lib.hid (Any.strconv_Atoi_range Tryd.laysC172 S (by omega) (by rw [hlist]; exact ha))
    have HA := Lib.hid ha
    obtain ⟨te, pe, hcell⟩ := hw.rng
    have H := Lib.hid (H.out (.iface te pe) w hcell (Or.inr ⟨te, pe, rfl⟩))
    obtain ⟨z, hz⟩ : ∃ z, z = Lib.atoiSat S.data.toList := ⟨_, rfl⟩
    rw [← hz] at H
    clear hlist ha hw hcell hz
    go_enter Tryd.func24, Tryd.ntmps24
    go_wp2_with fail
    refine H.out.mono ?_
    rintro e w1 ⟨b, rfl, hb, hcell, hbe⟩
    have HB := Lib.hid hbe
    clear hbe hcell
    go_wp2_with fail
    go_ret2
    exact ⟨⟨_, _, rfl, Or.inr ⟨rfl, rfl, fun u hu => by rw [HA.out] at hu; cases hu⟩⟩, HB.out⟩
  | _ =>
    have H := Lib.hid (Any.strconv_Atoi_syntax Tryd.laysC172 S (by omega) (by rw [hlist]; exact ha))
    have HA := Lib.hid ha
    obtain ⟨te, pe, hcell⟩ := hw.syn
    have H := Lib.hid (H.out (.iface te pe) w hcell (Or.inr ⟨te, pe, rfl⟩))
    clear hlist ha hw hcell
    go_enter Tryd.func24, Tryd.ntmps24
    go_wp2_with fail
    refine H.out.mono ?_
    rintro e w1 ⟨b, rfl, hb, hcell, hbe⟩
    have HB := Lib.hid hbe
    clear hbe hcell
    go_wp2_with fail
    go_ret2
    exact ⟨⟨_, _, rfl, Or.inr ⟨rfl, rfl, fun u hu => by rw [HA.out] at hu; cases hu⟩⟩, HB.out⟩

theorem withinN_any (n a b : Int) (w : World) :
    Calls Tryd.prog 18 #[.int .i64 n, .int .i64 a, .int .i64 b] w fun e w' => e = .returned (.bool (decide (a ≤ n) && decide (n ≤ b))) ∧ w = w' := by
  by_cases h : a ≤ n
  · by_cases h2 : n ≤ b
    · rw [decide_eq_true h, decide_eq_true h2]
      go_enter Tryd.func18, Tryd.ntmps18
      go_wp2_with fail
      go_ret
      exact ⟨rfl, rfl⟩
    · rw [decide_eq_true h, decide_eq_false h2]
      go_enter Tryd.func18, Tryd.ntmps18
      go_wp2_with fail
      go_ret
      exact ⟨rfl, rfl⟩
  · rw [decide_eq_false h]
    go_enter Tryd.func18, Tryd.ntmps18
    go_wp2_with fail
    go_ret
    exact ⟨rfl, rfl⟩

theorem withinB_any (n a b : Int) (w : World) (t : Bool) (h : t = (decide (a ≤ n) && decide (n ≤ b))) :
    Calls Tryd.prog 18 #[.int .i64 n, .int .i64 a, .int .i64 b] w fun e w' => e = .returned (.bool t) ∧ w = w' := h ▸ withinN_any n a b w

theorem FormatI_any (n : Int) (w : World) (hw : SW w) (h0 : -9223372036854775808 ≤ n) (h1 : n ≤ 9223372036854775807) :
    Calls Tryd.prog 6 #[.int .i64 n] w fun e w' => (e = if -999999 ≤ n ∧ n ≤ 999999 then .returned (.tuple #[.string (ba (Lib.itoa n)), .bool true]) else .returned (.tuple #[.string (ba []), .bool false])) ∧ Below w.heap.size w w' := by
  have HD := Lib.hid (decI_any n w hw h0 h1)
  clear hw
  by_cases ha : -999999 ≤ n
  · by_cases hb : n ≤ 999999
    · rw [if_pos ⟨ha, hb⟩]
      go_enter Tryd.func6, Tryd.ntmps6
      go_wp2_with fail
      refine (withinB_any _ _ _ _ true (by simp [ha, hb])).mono ?_
      rintro e wq ⟨rfl, rfl⟩
      go_wp2_with fail
      refine HD.out.mono ?_
      rintro e w2 ⟨rfl, h2⟩
      have HB2 := Lib.hid h2
      clear h2
      go_wp2_with fail
      go_ret2
      exact ⟨rfl, HB2.out⟩
    · rw [if_neg (fun h => hb h.2)]
      go_enter Tryd.func6, Tryd.ntmps6
      go_wp2_with fail
      refine (withinB_any _ _ _ _ false (by simp [hb])).mono ?_
      rintro e wq ⟨rfl, rfl⟩
      go_wp2_with fail
      go_ret2
      exact ⟨rfl, Below.refl _ _⟩
  · rw [if_neg (fun h => ha h.1)]
    go_enter Tryd.func6, Tryd.ntmps6
    go_wp2_with fail
    refine (withinB_any _ _ _ _ false (by simp; omega)).mono ?_
    rintro e wq ⟨rfl, rfl⟩
    go_wp2_with fail
    go_ret2
    exact ⟨rfl, Below.refl _ _⟩

set_option maxHeartbeats 1000000 in
theorem ParseI_any (l : List UInt8) (w : World) (hw : SW w) (hl : l.length ≤ 1000000) :
    Calls Tryd.prog 9 #[.string (ba l)] w fun e w' => (∃ v ok, e = .returned (.tuple #[.int .i64 v, .bool ok]) ∧ RD l v ok) ∧ Below w.heap.size w w' := by
  have H := Lib.hid (readDec_any l w hw hl)
  clear hw
  generalize ba l = S at *
  go_enter Tryd.func9, Tryd.ntmps9
  go_wp2_with fail
  refine H.out.mono ?_
  rintro e w2 ⟨⟨v, ok, rfl, h⟩, h2⟩
  have HB2 := Lib.hid h2
  have hr := h.rd
  clear h2 h
  cases ok with
  | false =>
    rw [if_neg (fun k => by cases k.1)] at hr
    have HR := Lib.hid hr
    clear hr
    go_wp2_with fail
    go_ret2
    exact ⟨⟨_, _, rfl, HR.out⟩, HB2.out⟩
  | true =>
    by_cases ha : -999999 ≤ v
    · by_cases hb : v ≤ 999999
      · rw [if_pos ⟨rfl, ha, hb⟩] at hr
        have HR := Lib.hid hr
        clear hr
        go_wp2_with fail
        refine (withinB_any _ _ _ _ true (by simp [ha, hb])).mono ?_
        rintro e wq ⟨rfl, rfl⟩
        go_wp2_with fail
        go_ret2
        exact ⟨⟨_, _, rfl, HR.out⟩, HB2.out⟩
      · rw [if_neg (fun k => hb k.2.2)] at hr
        have HR := Lib.hid hr
        clear hr
        go_wp2_with fail
        refine (withinB_any _ _ _ _ false (by simp [hb])).mono ?_
        rintro e wq ⟨rfl, rfl⟩
        go_wp2_with fail
        go_ret2
        exact ⟨⟨_, _, rfl, HR.out⟩, HB2.out⟩
    · rw [if_neg (fun k => ha k.2.1)] at hr
      have HR := Lib.hid hr
      clear hr
      go_wp2_with fail
      refine (withinB_any _ _ _ _ false (by simp; omega)).mono ?_
      rintro e wq ⟨rfl, rfl⟩
      go_wp2_with fail
      go_ret2
      exact ⟨⟨_, _, rfl, HR.out⟩, HB2.out⟩

end Go.Proofs.YtbobohfhplfpgaaDoor
