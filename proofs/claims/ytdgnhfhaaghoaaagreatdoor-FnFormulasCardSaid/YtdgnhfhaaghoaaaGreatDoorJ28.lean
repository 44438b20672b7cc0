/- Which states satisfy a formula: program walked. -/
import Derived.Test.YtdgnhfhaaghoaaaGreatDoorProg
import Derived.Test.YtdgnhfhaaghoaaaGreatDoorJ3
import Derived.Test.YtdgnhfhaaghoaaaGreatDoorJ27
set_option linter.unusedSimpArgs false
set_option linter.unusedVariables false
namespace Go.Proofs.YtdgnhfhaaghoaaaGreatDoor
open Go.RowKit

abbrev bools (bs : List Bool) : List Value := bs.map Value.bool

def canB (l : Lab) (d : Int) (ends : List Bool) (i : Nat) : Bool := l.steps.any fun s => (s.1 == (i : Int)) && (s.2.1 == d) && ends.getD s.2.2.toNat false
def satB (l : Lab) (f : List Int) : Nat → Int → List Bool
  | 0, _ => []
  | n + 1, p =>
    if f.getD p.toNat 0 == 0 then l.shows.map (fun _ => true)
    else if f.getD p.toNat 0 == 1 then l.shows.map (fun m => hasI m (f.getD (p + 1).toNat 0))
    else if f.getD p.toNat 0 == 2 then (satB l f n (p + 1)).map (!·)
    else if f.getD p.toNat 0 == 3 then List.zipWith (· && ·) (satB l f n (p + 1)) (satB l f n (fEnd n f (p + 1)))
    else (List.range l.shows.length).map (canB l (f.getD (p + 1).toNat 0) (satB l f n (p + 2)))

theorem satB_len (l : Lab) (f : List Int) (n : Nat) : ∀ p, 0 ≤ fEnd n f p → (satB l f n p).length = l.shows.length := by
  induction n with
  | zero => intro p h; simp [fEnd] at h
  | succ n ih =>
    intro p h
    have hp := fEnd_p0 h
    obtain ⟨k, rfl⟩ := Int.eq_ofNat_of_zero_le hp.1
    rw [satB, Int.toNat_natCast]
    rcases fEnd_step h with ⟨h0, h1⟩ | ⟨h0, hk, ha, hb, h1⟩ | ⟨h0, h1⟩ | ⟨h0, ha, h1⟩ | ⟨h0, hk, ha, hb, h1⟩ <;> rw [h0]
    · simp
    · simp
    · rw [h1] at h
      simp [ih _ h]
    · rw [h1] at h
      simp [ih _ h, ih _ ha]
    · simp

theorem info_bool : (Tryz.prog.info? 4).map (fun i => (i.zero, i.size, i.bytes)) = some (some (.bool false), 1, 1) := by kernel_rfl

theorem fill_start (n : Nat) (res : List Bool) (h : res.length = n) : (madeCells (Value.bool false).cells (n * 1)).toList = bools (fillV res false 0) := by
  show (madeCells #[_] _).toList = _
  rw [toList_madeCells_one, Nat.mul_one, fillV_zero, h]
  simp

theorem fill_step {wr : World} {B0 g n k : Nat} {e : TypeId} {res : List Bool} {x : Bool} (hown : wr.ownsRow B0 e 1 (.slice (some ⟨g, 0, none⟩) n n) n (bools (fillV res false k))) (hl : res.length = n) (hk : k < n) (hx : res[k]? = some x) :
    wr.cell? ⟨g, k, none⟩ = some (.bool false) ∧ wr.frozen? ⟨g, k, none⟩ = false ∧ (wr.setCell ⟨g, k, none⟩ (.bool x)).ownsRow B0 e 1 (.slice (some ⟨g, 0, none⟩) n n) n (bools (fillV res false (k + 1))) := by
  have hcell := hown.cellAt k (by omega)
  have hv : (bools (fillV res false k))[k]? = some (.bool false) := by
    have e1 : bools (fillV res false k) = bools (res.take k) ++ bools (List.replicate (res.length - k) false) := by simp [fillV, bools]
    rw [e1, List.getElem?_append_right (by simp; omega), List.getElem?_map, List.getElem?_replicate, if_pos (by simp; omega)]
    rfl
  rw [hv] at hcell
  refine ⟨hcell, hown.frozenAt k, ?_⟩
  have hst := (hown.stored k (.bool x)).1
  have e2 : (bools (fillV res false k)).set k (.bool x) = bools (fillV res false (k + 1)) := by
    rw [← fillV_set res false x k (by omega) hx]
    simp [List.map_set]
  rwa [e2] at hst

theorem fill_end {res : List Bool} {n : Nat} (h : res.length = n) : bools (fillV res false n) = bools res := by rw [fillV_all' h]

set_option maxRecDepth 100000 in
set_option maxHeartbeats 2000000 in
theorem sat_true (lv : Value) (l : Lab) (A : Option Addr) (c : Nat) (f : List Int) (k : Nat) (w : World) (hs : SmallLab l) (hl : RLab w lv l) (hf : f.length ≤ 200) (hA : Cells w A (ints f)) (hk : k < f.length) (h0 : f.getD k 0 = 0) :
    Calls Tryz.prog 62 #[lv, .slice A f.length c, .int .i64 k] w fun e w' => ∃ v, e = .returned v ∧ w'.ownsRow w.heap.size 4 1 v l.shows.length (bools (l.shows.map (fun _ => true))) ∧ Below w.heap.size w w' := by
  obtain ⟨i0, hi, hz0, hz1, hz2⟩ := info_parts info_bool
  obtain ⟨sv, tv, rfl, hsv, htv⟩ := hl
  obtain ⟨B, d, vs, rfl, hm, hvl, hcB, hrow⟩ := hsv
  have hn := hs.1
  obtain ⟨b, o, rfl, hc⟩ := hA.int hk
  have c00 := hc k hk
  rw [h0] at c00
  have HC0 := Lib.hid c00
  clear c00 hc hA
  go_enter Tryz.func62, Tryz.ntmps62
  go_wp2_with (first | (at_make; refine wpList_make_full _ rfl _ _ 79 rfl w.heap.size 4 i0 _ 1 Tryz.underlying79 hi hz0 hz1 _ _ _ _ l.shows.length rfl rfl rfl rfl (by rw [hz2]; omega) (by unfold maxLen; omega) (by simp) ?_; intro w1 hown hgrow; have hbel : Below w.heap.size w w1 := ((Below.refl _ _).alloc (Nat.le_refl _) _).grown hgrow (by simp) (by simp); have c0 := cell_below hbel HC0.out (lt_of_cell HC0.out)))
  have hlen : (l.shows.map (fun _ => true)).length = l.shows.length := by simp
  have hat : ∀ j, j < l.shows.length → (l.shows.map (fun _ => true))[j]? = some true := fun j hj => by simp [hj]
  obtain ⟨res, hres⟩ : ∃ res, res = l.shows.map (fun _ => true) := ⟨_, rfl⟩
  rw [← hres] at hlen hat
  have HRES := Lib.hid hres
  clear hres
  rw [fill_start _ res hlen, World.size_alloc] at hown
  clear hgrow hrow hcB hvl htv c0
  go_loopw [69] (fun i wr => ∃ j : Nat, j ≤ l.shows.length ∧ i = .int .i64 j ∧ wr.ownsRow w.heap.size 4 1 (.slice (some ⟨w.heap.size + 1, 0, none⟩) l.shows.length l.shows.length) l.shows.length (bools (fillV res false j)) ∧ Below w.heap.size w wr)
    (fun i _ => l.shows.length - (intOf i).toNat)
  case atStart => exact ⟨0, Nat.zero_le _, rfl, hown, hbel⟩
  case round =>
    clear hown hbel
    obtain ⟨j, hj, rfl, hown, hbel⟩ := hrel
    by_cases hlt : j < l.shows.length
    · obtain ⟨g1, g2, g3⟩ := fill_step hown hlen hlt (hat j hlt)
      have HN := Lib.hid g3
      have HB := Lib.hid (hbel.setCell (p := ⟨w.heap.size + 1, j, none⟩) (by simp) (.bool true))
      clear hown hbel g3
      go_wp2_with fail
      go_roundw
      case rel => exact ⟨j + 1, by omega, by go_num, HN.out, HB.out⟩
      case measure => simp [intOf]; omega
    · obtain rfl : j = l.shows.length := by omega
      rw [fill_end hlen] at hown
      have HO := Lib.hid hown
      clear hown
      go_wp2_with fail
      go_ret
      exact ⟨_, rfl, by rw [← HRES.out]; exact HO.out, hbel⟩

set_option maxRecDepth 100000 in
set_option maxHeartbeats 2000000 in
theorem sat_mark (lv : Value) (l : Lab) (A : Option Addr) (c : Nat) (f : List Int) (k : Nat) (w : World) (hs : SmallLab l) (hl : RLab w lv l) (hf : f.length ≤ 200) (hA : Cells w A (ints f)) (hk : k + 1 < f.length) (h0 : f.getD k 0 = 1) :
    Calls Tryz.prog 62 #[lv, .slice A f.length c, .int .i64 k] w fun e w' => ∃ v, e = .returned v ∧ w'.ownsRow w.heap.size 4 1 v l.shows.length (bools (l.shows.map (fun m => hasI m (f.getD (k + 1) 0)))) ∧ Below w.heap.size w w' := by
  obtain ⟨i0, hi, hz0, hz1, hz2⟩ := info_parts info_bool
  obtain ⟨sv, tv, rfl, hsv, htv⟩ := hl
  have HSV := Lib.hid (show ∀ W, Below w.heap.size w W → RSS W sv l.shows from fun W hb => hsv.below hb)
  obtain ⟨B, d, vs, rfl, hm, hvl, hcB, hrow⟩ := hsv
  have hn := hs.1
  have hsm := hs.2.2
  obtain ⟨b, o, rfl, hc⟩ := hA.int (k := k) (by omega)
  have c00 := hc k (by omega)
  have c10 := hc (k + 1) hk
  rw [h0] at c00
  have HC0 := Lib.hid c00
  have HC1 := Lib.hid c10
  clear c00 c10 hc hA
  obtain ⟨res, hres⟩ : ∃ res, res = l.shows.map (fun m => hasI m (f.getD (k + 1) 0)) := ⟨_, rfl⟩
  have hlen : res.length = l.shows.length := by rw [hres]; simp
  have HAT := Lib.hid (show ∀ (j : Nat) xs, l.shows[j]? = some xs → res[j]? = some (hasI xs (f.getD (k + 1) 0)) from fun j xs h => by rw [hres, List.getElem?_map, h]; rfl)
  have HRES := Lib.hid hres
  clear hres
  generalize f.getD (k + 1) 0 = dd at *
  go_enter Tryz.func62, Tryz.ntmps62
  go_wp2_with (first | (at_make; refine wpList_make_full _ rfl _ _ 79 rfl w.heap.size 4 i0 _ 1 Tryz.underlying79 hi hz0 hz1 _ _ _ _ l.shows.length rfl rfl rfl rfl (by rw [hz2]; omega) (by unfold maxLen; omega) (by simp) ?_; intro w1 hown hgrow; have hbel : Below w.heap.size w w1 := ((Below.refl _ _).alloc (Nat.le_refl _) _).grown hgrow (by simp) (by simp); have c0 := cell_below hbel HC0.out (lt_of_cell HC0.out)))
  rw [fill_start _ res hlen, World.size_alloc] at hown
  have hbox := (hgrow.block w.heap.size (by simp) (by simp)).trans (heap_alloc_new _ _)
  clear hgrow hrow hcB hvl htv c0
  go_loopw [80] (fun i wr => ∃ j : Nat, j ≤ l.shows.length ∧ i = .int .i64 j ∧ wr.ownsRow w.heap.size 4 1 (.slice (some ⟨w.heap.size + 1, 0, none⟩) l.shows.length l.shows.length) l.shows.length (bools (fillV res false j)) ∧ Below w.heap.size w wr ∧ wr.heap[w.heap.size]? = some (.cells #[.slice B l.shows.length d, tv] 27))
    (fun i _ => l.shows.length - (intOf i).toNat)
  case atStart => exact ⟨0, Nat.zero_le _, rfl, hown, hbel, hbox⟩
  case round =>
    clear hown hbel hbox
    obtain ⟨j, hj, rfl, hown, hbel, hbox⟩ := hrel
    by_cases hlt : j < l.shows.length
    · have q0 := cell_of_row wr _ 0 _ _ _ hbox
      have c1 := cell_below hbel HC1.out (lt_of_cell HC1.out)
      obtain ⟨B', d', vs, e, _, hvl, hcB, hrow⟩ := HSV.out wr hbel
      cases e
      obtain ⟨b2, o2, rfl, hcb⟩ := hcB.at_ (k := j) (by omega)
      have hcj := hcb j _ (List.getElem?_eq_getElem (by omega))
      obtain ⟨A3, c3, e3, hm3, hc3⟩ := hrow j _ _ (List.getElem?_eq_getElem (by omega)) (List.getElem?_eq_getElem hlt)
      rw [e3] at hcj
      have hx := HAT.out j _ (List.getElem?_eq_getElem hlt)
      have hsx := hsm _ (List.getElem_mem hlt)
      generalize l.shows[j] = xs at *
      obtain ⟨g1, g2, g3⟩ := fill_step hown hlen hlt hx
      have HN := Lib.hid g3
      have HB := Lib.hid (hbel.drew.setCell (p := ⟨w.heap.size + 1, j, none⟩) (by simp) (.bool (hasI xs dd)))
      have HBX := Lib.hid (show (wr.setCell ⟨w.heap.size + 1, j, none⟩ (.bool (hasI xs dd))).heap[w.heap.size]? = _ from (Below.heap_setCell wr ⟨w.heap.size + 1, j, none⟩ (.bool (hasI xs dd)) w.heap.size (by simp)).trans hbox)
      have HCT := Lib.hid (fun W => contains_any A3 c3 xs dd W hsx)
      have hlt3 : w.heap.size + 1 < wr.heap.size := (hown.lt _ rfl).2
      clear hown hbel g3 hbox e3 hrow hcb hcB hvl
      have b0 : (0 : Int) ≤ (j : Int) := by omega
      have b1 : (j : Int) < (l.shows.length : Int) := by omega
      have b2 : (0 : Int) ≤ (k : Int) + 1 := by omega
      have b3 : (k : Int) + 1 < (f.length : Int) := by omega
      have hw : IntKind.i64.wrap ((k : Int) + 1) = (k : Int) + 1 := IntWalk.i64_in _ (by omega)
      have HQ := Lib.hid (show Calls Tryz.prog 139 #[.slice A3 xs.length c3, .int .i64 dd] wr.drew (fun e w' => e = .returned (.bool (hasI xs dd)) ∧ w' = wr.drew) from (HCT.out wr.drew hc3.drew).mono fun _ _ h => ⟨h.1, h.2.symm⟩)
      go_wp2_with fail
      refine wp_region_still_tail 14 (by kernel_rfl) (by kernel_rfl) ?_
      simp only [List.take_succ_cons, List.take_zero, List.drop_succ_cons, List.drop_zero]
      repeat (first | still_step | still_call HQ.out)
      refine wpStill_nil ?_
      clear hw
      change wpList _ _ _ _ _ wr.drew
      go_wp2_with fail
      go_roundw
      case rel => exact ⟨j + 1, by omega, by go_num, HN.out, HB.out, HBX.out⟩
      case measure => simp [intOf]; omega
    · obtain rfl : j = l.shows.length := by omega
      rw [fill_end hlen] at hown
      have HO := Lib.hid hown
      clear hown
      go_wp2_with fail
      go_ret
      exact ⟨_, rfl, by rw [← HRES.out]; exact HO.out, hbel⟩

set_option maxRecDepth 100000 in
set_option maxHeartbeats 2000000 in
theorem sat_not (lv : Value) (l : Lab) (A : Option Addr) (c : Nat) (f : List Int) (k : Nat) (sub : List Bool) (w : World) (hs : SmallLab l) (hl : RLab w lv l) (hf : f.length ≤ 200) (hA : Cells w A (ints f)) (hk : k < f.length) (h0 : f.getD k 0 = 2)
    (hsub : sub.length = l.shows.length)
    (H : ∀ W, Below w.heap.size w W → Calls Tryz.prog 62 #[lv, .slice A f.length c, .int .i64 ((k : Int) + 1)] W fun e W' => ∃ v, e = .returned v ∧ W'.ownsRow W.heap.size 4 1 v l.shows.length (bools sub) ∧ Below W.heap.size W W') :
    Calls Tryz.prog 62 #[lv, .slice A f.length c, .int .i64 k] w fun e w' => ∃ v, e = .returned v ∧ w'.ownsRow w.heap.size 4 1 v l.shows.length (bools (sub.map (!·))) ∧ Below w.heap.size w w' := by
  obtain ⟨i0, hi, hz0, hz1, hz2⟩ := info_parts info_bool
  obtain ⟨sv, tv, rfl, hsv, htv⟩ := hl
  obtain ⟨B, d, vs, rfl, hm, hvl, hcB, hrow⟩ := hsv
  have hn := hs.1
  obtain ⟨b, o, rfl, hc⟩ := hA.int (k := k) (by omega)
  have c00 := hc k (by omega)
  rw [h0] at c00
  have HC0 := Lib.hid c00
  have HH := Lib.hid H
  clear c00 hc hA H hvl hcB hrow htv
  obtain ⟨res, hres⟩ : ∃ res, res = sub.map (!·) := ⟨_, rfl⟩
  have hlen : res.length = l.shows.length := by rw [hres]; simp [hsub]
  have HAT := Lib.hid (show ∀ (j : Nat) x, sub[j]? = some x → res[j]? = some (!x) from fun j x h => by rw [hres, List.getElem?_map, h]; rfl)
  have HRES := Lib.hid hres
  clear hres
  go_enter Tryz.func62, Tryz.ntmps62
  go_wp2_with (first | (at_make; refine wpList_make_full _ rfl _ _ 79 rfl w.heap.size 4 i0 _ 1 Tryz.underlying79 hi hz0 hz1 _ _ _ _ l.shows.length rfl rfl rfl rfl (by rw [hz2]; omega) (by unfold maxLen; omega) (by simp) ?_; intro w1 hown hgrow; have hbel : Below w.heap.size w w1 := ((Below.refl _ _).alloc (Nat.le_refl _) _).grown hgrow (by simp) (by simp); have c0 := cell_below hbel HC0.out (lt_of_cell HC0.out); have q0 := cell_of_row w1 w.heap.size 0 _ _ _ ((hgrow.block w.heap.size (by simp) (by simp)).trans (heap_alloc_new _ _)); have q1 := cell_of_row w1 w.heap.size 1 _ _ _ ((hgrow.block w.heap.size (by simp) (by simp)).trans (heap_alloc_new _ _))) | fail)
  rw [fill_start _ res hlen, World.size_alloc] at hown
  refine (HH.out w1 hbel).mono ?_
  rintro e w2 ⟨v2, rfl, ho2, hb2⟩
  obtain ⟨A2, c2, rfl, ho2⟩ := owns_form ho2
  have hown2 := owns_below hown hb2 (Nat.le_refl _)
  have hbel2 := hbel.trans (hb2.mono hbel.size)
  have HO2 := Lib.hid (show Own w2 (fun b => w1.heap.size ≤ b) (.slice A2 l.shows.length c2) l.shows.length (bools sub) from (Own.of_owns ho2).mono (fun g hg => (ho2.lt g hg).1))
  have hlt1 : w.heap.size + 1 < w1.heap.size := (hown.lt _ rfl).2
  clear hgrow c0 q0 q1 hown ho2 hbel hb2
  go_wp2_with fail
  go_loopw [106] (fun i wr => ∃ j : Nat, j ≤ l.shows.length ∧ i = .int .i64 j ∧ wr.ownsRow w.heap.size 4 1 (.slice (some ⟨w.heap.size + 1, 0, none⟩) l.shows.length l.shows.length) l.shows.length (bools (fillV res false j)) ∧ Below w.heap.size w wr ∧ Kept (fun b => b = w.heap.size + 1) w2 wr)
    (fun i _ => l.shows.length - (intOf i).toNat)
  case atStart => exact ⟨0, Nat.zero_le _, rfl, hown2, hbel2, Kept.refl _ _⟩
  case round =>
    clear hown2 hbel2
    obtain ⟨j, hj, rfl, hown, hbel, hkp⟩ := hrel
    by_cases hlt : j < l.shows.length
    · obtain ⟨A', c', e, hcs⟩ := (HO2.out.kept hkp (fun b h1 h2 => by omega)).cells
      cases e
      obtain ⟨b2, o2, rfl, hcb⟩ := hcs.at_ (k := j) (by simp; omega)
      have hjs : j < sub.length := by omega
      have hcj := hcb j (.bool sub[j]) (by simp [hjs])
      have hx := HAT.out j _ (List.getElem?_eq_getElem hjs)
      generalize sub[j] = x at *
      obtain ⟨g1, g2, g3⟩ := fill_step hown hlen hlt hx
      have HN := Lib.hid g3
      have HB := Lib.hid (hbel.setCell (p := ⟨w.heap.size + 1, j, none⟩) (by simp) (.bool (!x)))
      have HK := Lib.hid (hkp.setCell (p := ⟨w.heap.size + 1, j, none⟩) rfl (.bool (!x)))
      clear hown hbel g3 hcb hcs hkp
      go_wp2_with fail
      go_roundw
      case rel => exact ⟨j + 1, by omega, by go_num, HN.out, HB.out, HK.out⟩
      case measure => simp [intOf]; omega
    · obtain rfl : j = l.shows.length := by omega
      rw [fill_end hlen] at hown
      have HO := Lib.hid hown
      clear hown
      go_wp2_with fail
      go_ret
      exact ⟨_, rfl, by rw [← HRES.out]; exact HO.out, hbel⟩

end Go.Proofs.YtdgnhfhaaghoaaaGreatDoor
