/- Which states satisfy a formula: reference walked. -/
import Derived.Test.YtdgnhfhaaghoaaaGreatDoorProg
import Derived.Test.YtdgnhfhaaghoaaaGreatDoorJ28
import Derived.Test.YtdgnhfhaaghoaaaGreatDoorJ33
set_option linter.unusedSimpArgs false
set_option linter.unusedVariables false
namespace Go.Proofs.YtdgnhfhaaghoaaaGreatDoor
open Go.RowKit

set_option maxRecDepth 100000 in
set_option maxHeartbeats 20000000 in
theorem true_true (lv : Value) (l : Lab) (A : Option Addr) (c : Nat) (f : List Int) (k : Nat) (w : World) (hs : SmallLab l) (hl : RLab w lv l) (hf : f.length ≤ 200) (hA : Cells w A (ints f)) (hk : k < f.length) (h0 : f.getD k 0 = 0) :
    Calls Tryz.prog 84 #[lv, .slice A f.length c, .int .i64 k] w fun e w' => ∃ v, e = .returned (.tuple #[v, .int .i64 ((k : Int) + 1)]) ∧ w'.ownsRow w.heap.size 4 1 v l.shows.length (bools (l.shows.map (fun _ => true))) ∧ Below w.heap.size w w' := by
  obtain ⟨i0, hi, hz0, hz1, hz2⟩ := info_parts info_bool
  obtain ⟨sv, tv, rfl, hsv, htv⟩ := hl
  have HSV := Lib.hid (show ∀ W, Below w.heap.size w W → RSS W sv l.shows from fun W hb => hsv.below hb)
  have HT := Lib.hid (show ∀ W, Below w.heap.size w W → RA3 W tv l.steps from fun W hb => htv.below hb)
  obtain ⟨B, d, vs, rfl, hm, hvl, hcB, hrow⟩ := hsv
  obtain ⟨D, dd, rfl, hdm, _⟩ := htv
  have hn := hs.1
  have hn3 := hs.2.1
  have hsm := hs.2.2
  obtain ⟨b, o, rfl, hc⟩ := hA.int (k := k) (by omega)
  have c00 := hc k (by omega)
  rw [h0] at c00
  have HC0 := Lib.hid c00
  obtain ⟨res, hres⟩ : ∃ res, res = l.shows.map (fun _ => true) := ⟨_, rfl⟩
  have hlen : res.length = l.shows.length := by rw [hres]; simp
  have HAT := Lib.hid (show ∀ j, j < l.shows.length → res[j]? = some true from fun j hj => by rw [hres]; simp [hj])
  have HRES := Lib.hid hres
  clear hres
  clear c00 hc hA hvl hcB hrow
  go_enter Tryz.func84, Tryz.ntmps84
  go_wp2_with (first | (at_make; refine wpList_make_full _ rfl _ _ 79 rfl w.heap.size 4 i0 _ 1 Tryz.underlying79 hi hz0 hz1 _ _ _ _ l.shows.length rfl rfl rfl rfl (by rw [hz2]; omega) (by unfold maxLen; omega) (by simp) ?_; intro w1 hown hgrow; have hbel : Below w.heap.size w w1 := ((Below.refl _ _).alloc (Nat.le_refl _) _).grown hgrow (by simp) (by simp); have c0 := cell_below hbel HC0.out (lt_of_cell HC0.out)) | fail)
  rw [fill_start _ res hlen, World.size_alloc] at hown
  clear hgrow c0
  go_loopw [10] (fun i wr => ∃ j : Nat, j ≤ l.shows.length ∧ i = .int .i64 j ∧ wr.ownsRow w.heap.size 4 1 (.slice (some ⟨w.heap.size + 1, 0, none⟩) l.shows.length l.shows.length) l.shows.length (bools (fillV res false j)) ∧ Below w.heap.size w wr)
    (fun i _ => l.shows.length - (intOf i).toNat)
  case atStart => exact ⟨0, Nat.zero_le _, rfl, hown, hbel⟩
  case round =>
    clear hown hbel
    obtain ⟨j, hj, rfl, hown, hbel⟩ := hrel
    by_cases hlt : j < l.shows.length
    · have hx := HAT.out j hlt
      obtain ⟨g1, g2, g3⟩ := fill_step hown hlen hlt hx
      have HN := Lib.hid g3
      have HB := Lib.hid (hbel.setCell (p := ⟨w.heap.size + 1, j, none⟩) (by simp) (.bool (true)))
      clear hown hbel g3
      have b0 : (0 : Int) ≤ (j : Int) := by omega
      have b1 : (j : Int) < (l.shows.length : Int) := by omega
      go_wp2_with fail
      go_roundw
      case rel => exact ⟨j + 1, by omega, by go_num, HN.out, HB.out⟩
      case measure => simp [intOf]; omega
    · obtain rfl : j = l.shows.length := by omega
      rw [fill_end hlen] at hown
      have HO := Lib.hid hown
      clear hown
      go_wp2_with fail
      go_ret2
      exact ⟨_, rfl, by rw [← HRES.out]; exact HO.out, hbel⟩

set_option maxRecDepth 100000 in
set_option maxHeartbeats 20000000 in
theorem true_mark (lv : Value) (l : Lab) (A : Option Addr) (c : Nat) (f : List Int) (k : Nat) (w : World) (hs : SmallLab l) (hl : RLab w lv l) (hf : f.length ≤ 200) (hA : Cells w A (ints f)) (hk : k + 1 < f.length) (h0 : f.getD k 0 = 1) :
    Calls Tryz.prog 84 #[lv, .slice A f.length c, .int .i64 k] w fun e w' => ∃ v, e = .returned (.tuple #[v, .int .i64 ((k : Int) + 2)]) ∧ w'.ownsRow w.heap.size 4 1 v l.shows.length (bools (l.shows.map (fun m => hasI m (f.getD (k + 1) 0)))) ∧ Below w.heap.size w w' := by
  obtain ⟨i0, hi, hz0, hz1, hz2⟩ := info_parts info_bool
  obtain ⟨sv, tv, rfl, hsv, htv⟩ := hl
  have HSV := Lib.hid (show ∀ W, Below w.heap.size w W → RSS W sv l.shows from fun W hb => hsv.below hb)
  have HT := Lib.hid (show ∀ W, Below w.heap.size w W → RA3 W tv l.steps from fun W hb => htv.below hb)
  obtain ⟨B, d, vs, rfl, hm, hvl, hcB, hrow⟩ := hsv
  obtain ⟨D, dd, rfl, hdm, _⟩ := htv
  have hn := hs.1
  have hn3 := hs.2.1
  have hsm := hs.2.2
  obtain ⟨b, o, rfl, hc⟩ := hA.int (k := k) (by omega)
  have c00 := hc k (by omega)
  rw [h0] at c00
  have HC0 := Lib.hid c00
  have c10 := hc (k + 1) hk
  have HC1 := Lib.hid c10
  clear c10
  obtain ⟨res, hres⟩ : ∃ res, res = l.shows.map (fun m => hasI m (f.getD (k + 1) 0)) := ⟨_, rfl⟩
  have hlen : res.length = l.shows.length := by rw [hres]; simp
  have HAT := Lib.hid (show ∀ (j : Nat) xs, l.shows[j]? = some xs → res[j]? = some (hasI xs (f.getD (k + 1) 0)) from fun j xs h => by rw [hres, List.getElem?_map, h]; rfl)
  have HRES := Lib.hid hres
  clear hres
  generalize f.getD (k + 1) 0 = dl at *
  clear c00 hc hA hvl hcB hrow
  go_enter Tryz.func84, Tryz.ntmps84
  go_wp2_with (first | (at_make; refine wpList_make_full _ rfl _ _ 79 rfl w.heap.size 4 i0 _ 1 Tryz.underlying79 hi hz0 hz1 _ _ _ _ l.shows.length rfl rfl rfl rfl (by rw [hz2]; omega) (by unfold maxLen; omega) (by simp) ?_; intro w1 hown hgrow; have hbel : Below w.heap.size w w1 := ((Below.refl _ _).alloc (Nat.le_refl _) _).grown hgrow (by simp) (by simp); have c0 := cell_below hbel HC0.out (lt_of_cell HC0.out)) | fail)
  rw [fill_start _ res hlen, World.size_alloc] at hown
  have hbox := (hgrow.block w.heap.size (by simp) (by simp)).trans (heap_alloc_new _ _)
  clear hgrow c0
  go_loopw [11] (fun i wr => ∃ j : Nat, j ≤ l.shows.length ∧ i = .int .i64 j ∧ wr.ownsRow w.heap.size 4 1 (.slice (some ⟨w.heap.size + 1, 0, none⟩) l.shows.length l.shows.length) l.shows.length (bools (fillV res false j)) ∧ Below w.heap.size w wr ∧ wr.heap[w.heap.size]? = some (.cells #[.slice B l.shows.length d, .slice D l.steps.length dd] 27))
    (fun i _ => l.shows.length - (intOf i).toNat)
  case atStart => exact ⟨0, Nat.zero_le _, rfl, hown, hbel, hbox⟩
  case round =>
    clear hown hbel hbox
    obtain ⟨j, hj, rfl, hown, hbel, hbox⟩ := hrel
    by_cases hlt : j < l.shows.length
    · have q0 := cell_of_row wr _ 0 _ _ _ hbox
      have c1 := cell_below hbel HC1.out (lt_of_cell HC1.out)
      obtain ⟨B', d', vs, e, _, hvl, hcB, hrow⟩ := HSV.out wr hbel
      cases e
      obtain ⟨b2, o2, rfl, hcb⟩ := hcB.at_ (k := j) (by omega)
      have hcj := hcb j _ (List.getElem?_eq_getElem (by omega))
      obtain ⟨A3, c3, e3, hm3, hc3⟩ := hrow j _ _ (List.getElem?_eq_getElem (by omega)) (List.getElem?_eq_getElem hlt)
      rw [e3] at hcj
      have hx := HAT.out j _ (List.getElem?_eq_getElem hlt)
      have hsx := hsm _ (List.getElem_mem hlt)
      generalize l.shows[j] = xs at *
      obtain ⟨g1, g2, g3⟩ := fill_step hown hlen hlt hx
      have HN := Lib.hid g3
      have HBD := Lib.hid (hbel.drew.setCell (p := ⟨w.heap.size + 1, j, none⟩) (by simp) (.bool (hasI xs dl)))
      have HBX := Lib.hid (show (wr.setCell ⟨w.heap.size + 1, j, none⟩ (.bool (hasI xs dl))).heap[w.heap.size]? = _ from (Below.heap_setCell wr ⟨w.heap.size + 1, j, none⟩ (.bool (hasI xs dl)) w.heap.size (by simp)).trans hbox)
      have HCT := Lib.hid (fun W => l1Has_any A3 c3 xs dl W hsx)
      have HC3 := Lib.hid hc3
      have hlt3 : w.heap.size + 1 < wr.heap.size := (hown.lt _ rfl).2
      clear hown hbel g3 hbox e3 hrow hcb hcB hvl hc3
      have b0 : (0 : Int) ≤ (j : Int) := by omega
      have b1 : (j : Int) < (l.shows.length : Int) := by omega
      have b2' : (0 : Int) ≤ (k : Int) + 1 := by omega
      have b3 : (k : Int) + 1 < (f.length : Int) := by omega
      have hw : IntKind.i64.wrap ((k : Int) + 1) = (k : Int) + 1 := IntWalk.i64_in _ (by omega)
      go_wp2_with fail
      have HQ := Lib.hid (show Calls Tryz.prog 151 #[.slice A3 xs.length c3, .int .i64 dl] wr.drew (fun e w' => e = .returned (.bool (hasI xs dl)) ∧ w' = wr.drew) from (HCT.out wr.drew HC3.out.drew).mono fun _ _ h => ⟨h.1, h.2.symm⟩)
      refine wp_region_still_tail 14 (by kernel_rfl) (by kernel_rfl) ?_
      simp only [List.take_succ_cons, List.take_zero, List.drop_succ_cons, List.drop_zero]
      repeat (first | still_step | still_call HQ.out)
      refine wpStill_nil ?_
      clear hw
      change wpList _ _ _ _ _ wr.drew
      go_wp2_with fail
      go_roundw
      case rel => exact ⟨j + 1, by omega, by go_num, HN.out, HBD.out, HBX.out⟩
      case measure => simp [intOf]; omega
    · obtain rfl : j = l.shows.length := by omega
      rw [fill_end hlen] at hown
      have HO := Lib.hid hown
      clear hown
      go_wp2_with fail
      go_ret2
      exact ⟨_, rfl, by rw [← HRES.out]; exact HO.out, hbel⟩

set_option maxRecDepth 100000 in
set_option maxHeartbeats 20000000 in
theorem true_not (lv : Value) (l : Lab) (A : Option Addr) (c : Nat) (f : List Int) (k : Nat) (p2 : Int) (sub : List Bool) (w : World) (hs : SmallLab l) (hl : RLab w lv l) (hf : f.length ≤ 200) (hA : Cells w A (ints f)) (hk : k < f.length) (h0 : f.getD k 0 = 2)
    (hsub : sub.length = l.shows.length)
    (Hsub : ∀ W, Below w.heap.size w W → Calls Tryz.prog 84 #[lv, .slice A f.length c, .int .i64 ((k : Int) + 1)] W fun e W' => ∃ v, e = .returned (.tuple #[v, .int .i64 p2]) ∧ W'.ownsRow W.heap.size 4 1 v l.shows.length (bools sub) ∧ Below W.heap.size W W') :
    Calls Tryz.prog 84 #[lv, .slice A f.length c, .int .i64 k] w fun e w' => ∃ v, e = .returned (.tuple #[v, .int .i64 (p2)]) ∧ w'.ownsRow w.heap.size 4 1 v l.shows.length (bools (sub.map (!·))) ∧ Below w.heap.size w w' := by
  obtain ⟨i0, hi, hz0, hz1, hz2⟩ := info_parts info_bool
  obtain ⟨sv, tv, rfl, hsv, htv⟩ := hl
  have HSV := Lib.hid (show ∀ W, Below w.heap.size w W → RSS W sv l.shows from fun W hb => hsv.below hb)
  have HT := Lib.hid (show ∀ W, Below w.heap.size w W → RA3 W tv l.steps from fun W hb => htv.below hb)
  obtain ⟨B, d, vs, rfl, hm, hvl, hcB, hrow⟩ := hsv
  obtain ⟨D, dd, rfl, hdm, _⟩ := htv
  have hn := hs.1
  have hn3 := hs.2.1
  have hsm := hs.2.2
  obtain ⟨b, o, rfl, hc⟩ := hA.int (k := k) (by omega)
  have c00 := hc k (by omega)
  rw [h0] at c00
  have HC0 := Lib.hid c00
  have HH := Lib.hid Hsub
  clear Hsub
  obtain ⟨res, hres⟩ : ∃ res, res = sub.map (!·) := ⟨_, rfl⟩
  have hlen : res.length = l.shows.length := by rw [hres]; simp [hsub]
  have HAT := Lib.hid (show ∀ (j : Nat) x, sub[j]? = some x → res[j]? = some (!x) from fun j x h => by rw [hres, List.getElem?_map, h]; rfl)
  have HRES := Lib.hid hres
  clear hres
  clear c00 hc hA hvl hcB hrow
  go_enter Tryz.func84, Tryz.ntmps84
  go_wp2_with (first | (at_make; refine wpList_make_full _ rfl _ _ 79 rfl w.heap.size 4 i0 _ 1 Tryz.underlying79 hi hz0 hz1 _ _ _ _ l.shows.length rfl rfl rfl rfl (by rw [hz2]; omega) (by unfold maxLen; omega) (by simp) ?_; intro w1 hown hgrow; have hbel : Below w.heap.size w w1 := ((Below.refl _ _).alloc (Nat.le_refl _) _).grown hgrow (by simp) (by simp); have c0 := cell_below hbel HC0.out (lt_of_cell HC0.out); have q0 := cell_of_row w1 w.heap.size 0 _ _ _ ((hgrow.block w.heap.size (by simp) (by simp)).trans (heap_alloc_new _ _)); have q1 := cell_of_row w1 w.heap.size 1 _ _ _ ((hgrow.block w.heap.size (by simp) (by simp)).trans (heap_alloc_new _ _))) | fail)
  rw [fill_start _ res hlen, World.size_alloc] at hown
  refine (HH.out w1 hbel).mono ?_
  rintro e w2 ⟨v2, rfl, ho2, hb2⟩
  obtain ⟨A2, c2, rfl, ho2⟩ := owns_form ho2
  have hown2 := owns_below hown hb2 (Nat.le_refl _)
  have hbel2 := hbel.trans (hb2.mono hbel.size)
  have HO2 := Lib.hid (show Own w2 (fun b => w1.heap.size ≤ b) (.slice A2 l.shows.length c2) l.shows.length (bools sub) from (Own.of_owns ho2).mono (fun g hg => (ho2.lt g hg).1))
  have hlt1 : w.heap.size + 1 < w1.heap.size := (hown.lt _ rfl).2
  clear hgrow c0 q0 q1 hown ho2 hbel hb2
  go_wp2_with fail
  go_loopw [14] (fun i wr => ∃ j : Nat, j ≤ l.shows.length ∧ i = .int .i64 j ∧ wr.ownsRow w.heap.size 4 1 (.slice (some ⟨w.heap.size + 1, 0, none⟩) l.shows.length l.shows.length) l.shows.length (bools (fillV res false j)) ∧ Below w.heap.size w wr ∧ Kept (fun b => b = w.heap.size + 1) w2 wr)
    (fun i _ => l.shows.length - (intOf i).toNat)
  case atStart => exact ⟨0, Nat.zero_le _, rfl, hown2, hbel2, Kept.refl _ _⟩
  case round =>
    clear hown2 hbel2
    obtain ⟨j, hj, rfl, hown, hbel, hkp⟩ := hrel
    by_cases hlt : j < l.shows.length
    · obtain ⟨A', c', e, hcs⟩ := (HO2.out.kept hkp (fun b h1 h2 => by omega)).cells
      cases e
      obtain ⟨b2, o2, rfl, hcb⟩ := hcs.at_ (k := j) (by simp; omega)
      have hjs : j < sub.length := by omega
      have hcj := hcb j (.bool sub[j]) (by simp [hjs])
      have hx := HAT.out j _ (List.getElem?_eq_getElem hjs)
      generalize sub[j] = x at *
      clear hcb hcs
      obtain ⟨g1, g2, g3⟩ := fill_step hown hlen hlt hx
      have HN := Lib.hid g3
      have HB := Lib.hid (hbel.setCell (p := ⟨w.heap.size + 1, j, none⟩) (by simp) (.bool (!x)))
      have HK := Lib.hid (hkp.setCell (p := ⟨w.heap.size + 1, j, none⟩) rfl (.bool (!x)))
      clear hown hbel g3 hkp
      have b0 : (0 : Int) ≤ (j : Int) := by omega
      have b1 : (j : Int) < (l.shows.length : Int) := by omega
      go_wp2_with fail
      go_roundw
      case rel => exact ⟨j + 1, by omega, by go_num, HN.out, HB.out, HK.out⟩
      case measure => simp [intOf]; omega
    · obtain rfl : j = l.shows.length := by omega
      rw [fill_end hlen] at hown
      have HO := Lib.hid hown
      clear hown
      go_wp2_with fail
      go_ret2
      exact ⟨_, rfl, by rw [← HRES.out]; exact HO.out, hbel⟩

set_option maxRecDepth 100000 in
set_option maxHeartbeats 20000000 in
theorem true_and (lv : Value) (l : Lab) (A : Option Addr) (c : Nat) (f : List Int) (k : Nat) (p2 p3 : Int) (sub sec : List Bool) (w : World) (hs : SmallLab l) (hl : RLab w lv l) (hf : f.length ≤ 200) (hA : Cells w A (ints f)) (hk : k < f.length) (h0 : f.getD k 0 = 3)
    (hsub : sub.length = l.shows.length) (hsec : sec.length = l.shows.length)
    (Hsub : ∀ W, Below w.heap.size w W → Calls Tryz.prog 84 #[lv, .slice A f.length c, .int .i64 ((k : Int) + 1)] W fun e W' => ∃ v, e = .returned (.tuple #[v, .int .i64 p2]) ∧ W'.ownsRow W.heap.size 4 1 v l.shows.length (bools sub) ∧ Below W.heap.size W W')
    (Hsec : ∀ W, Below w.heap.size w W → Calls Tryz.prog 84 #[lv, .slice A f.length c, .int .i64 p2] W fun e W' => ∃ v, e = .returned (.tuple #[v, .int .i64 p3]) ∧ W'.ownsRow W.heap.size 4 1 v l.shows.length (bools sec) ∧ Below W.heap.size W W') :
    Calls Tryz.prog 84 #[lv, .slice A f.length c, .int .i64 k] w fun e w' => ∃ v, e = .returned (.tuple #[v, .int .i64 (p3)]) ∧ w'.ownsRow w.heap.size 4 1 v l.shows.length (bools (List.zipWith (· && ·) sub sec)) ∧ Below w.heap.size w w' := by
  obtain ⟨i0, hi, hz0, hz1, hz2⟩ := info_parts info_bool
  obtain ⟨sv, tv, rfl, hsv, htv⟩ := hl
  have HSV := Lib.hid (show ∀ W, Below w.heap.size w W → RSS W sv l.shows from fun W hb => hsv.below hb)
  have HT := Lib.hid (show ∀ W, Below w.heap.size w W → RA3 W tv l.steps from fun W hb => htv.below hb)
  obtain ⟨B, d, vs, rfl, hm, hvl, hcB, hrow⟩ := hsv
  obtain ⟨D, dd, rfl, hdm, _⟩ := htv
  have hn := hs.1
  have hn3 := hs.2.1
  have hsm := hs.2.2
  obtain ⟨b, o, rfl, hc⟩ := hA.int (k := k) (by omega)
  have c00 := hc k (by omega)
  rw [h0] at c00
  have HC0 := Lib.hid c00
  have HH := Lib.hid Hsub
  have HH2 := Lib.hid Hsec
  clear Hsub Hsec
  obtain ⟨res, hres⟩ : ∃ res, res = List.zipWith (· && ·) sub sec := ⟨_, rfl⟩
  have hlen : res.length = l.shows.length := by rw [hres]; simp [hsub, hsec]
  have HAT := Lib.hid (show ∀ (j : Nat) x y, sub[j]? = some x → sec[j]? = some y → res[j]? = some (x && y) from fun j x y h1 h2 => by rw [hres, List.getElem?_zipWith, h1, h2])
  have HRES := Lib.hid hres
  clear hres
  clear c00 hc hA hvl hcB hrow
  go_enter Tryz.func84, Tryz.ntmps84
  go_wp2_with (first | (at_make; refine wpList_make_full _ rfl _ _ 79 rfl w.heap.size 4 i0 _ 1 Tryz.underlying79 hi hz0 hz1 _ _ _ _ l.shows.length rfl rfl rfl rfl (by rw [hz2]; omega) (by unfold maxLen; omega) (by simp) ?_; intro w1 hown hgrow; have hbel : Below w.heap.size w w1 := ((Below.refl _ _).alloc (Nat.le_refl _) _).grown hgrow (by simp) (by simp); have c0 := cell_below hbel HC0.out (lt_of_cell HC0.out); have q0 := cell_of_row w1 w.heap.size 0 _ _ _ ((hgrow.block w.heap.size (by simp) (by simp)).trans (heap_alloc_new _ _)); have q1 := cell_of_row w1 w.heap.size 1 _ _ _ ((hgrow.block w.heap.size (by simp) (by simp)).trans (heap_alloc_new _ _))) | fail)
  rw [fill_start _ res hlen, World.size_alloc] at hown
  refine (HH.out w1 hbel).mono ?_
  rintro e w1a ⟨v1, rfl, ho1, hb1⟩
  obtain ⟨A1, c1, rfl, ho1⟩ := owns_form ho1
  have hs1 : w1.heap.size ≤ w1a.heap.size := hb1.size
  have q0a := cell_below hb1 q0 (lt_of_cell q0)
  have q1a := cell_below hb1 q1 (lt_of_cell q1)
  have hlt1 : w.heap.size + 1 < w1.heap.size := (hown.lt _ rfl).2
  have hown1 := owns_below hown hb1 (Nat.le_refl _)
  have hbel1 : Below w.heap.size w w1a := hbel.trans (hb1.mono hbel.size)
  clear hb1
  go_wp2_with fail
  refine (HH2.out w1a hbel1).mono ?_
  rintro e w2 ⟨v2, rfl, ho2, hb2⟩
  obtain ⟨A2, c2, rfl, ho2⟩ := owns_form ho2
  have HO1 := Lib.hid (show Own w2 (fun b => w1.heap.size ≤ b) (.slice A1 l.shows.length c1) l.shows.length (bools sub) from ((Own.of_owns ho1).below hb2 (Nat.le_refl _)).mono (fun g hg => (ho1.lt g hg).1))
  have hown2 := owns_below hown1 hb2 (Nat.le_refl _)
  have hbel2 := hbel1.trans (hb2.mono hbel1.size)
  have HO2 := Lib.hid (show Own w2 (fun b => w1.heap.size ≤ b) (.slice A2 l.shows.length c2) l.shows.length (bools sec) from (Own.of_owns ho2).mono (fun g hg => Nat.le_trans hs1 (ho2.lt g hg).1))
  clear hgrow c0 q0 q1 q0a q1a hown hown1 ho1 ho2 hbel hbel1 hb2
  go_wp2_with fail
  go_loopw [19] (fun i wr => ∃ j : Nat, j ≤ l.shows.length ∧ i = .int .i64 j ∧ wr.ownsRow w.heap.size 4 1 (.slice (some ⟨w.heap.size + 1, 0, none⟩) l.shows.length l.shows.length) l.shows.length (bools (fillV res false j)) ∧ Below w.heap.size w wr ∧ Kept (fun b => b = w.heap.size + 1) w2 wr)
    (fun i _ => l.shows.length - (intOf i).toNat)
  case atStart => exact ⟨0, Nat.zero_le _, rfl, hown2, hbel2, Kept.refl _ _⟩
  case round =>
    clear hown2 hbel2
    obtain ⟨j, hj, rfl, hown, hbel, hkp⟩ := hrel
    by_cases hlt : j < l.shows.length
    · obtain ⟨A', c', e, hcs⟩ := (HO1.out.kept hkp (fun b h1 h2 => by omega)).cells
      cases e
      obtain ⟨b2, o2, rfl, hcb⟩ := hcs.at_ (k := j) (by simp; omega)
      obtain ⟨A3, c3, e, hcs3⟩ := (HO2.out.kept hkp (fun b h1 h2 => by omega)).cells
      cases e
      obtain ⟨b3, o3, rfl, hcb3⟩ := hcs3.at_ (k := j) (by simp; omega)
      have hjs : j < sub.length := by omega
      have hjs3 : j < sec.length := by omega
      have hcj := hcb j (.bool sub[j]) (by simp [hjs])
      have hcj3 := hcb3 j (.bool sec[j]) (by simp [hjs3])
      have hx := HAT.out j _ _ (List.getElem?_eq_getElem hjs) (List.getElem?_eq_getElem hjs3)
      generalize sub[j] = x at *
      generalize sec[j] = y at *
      clear hcb hcs hcb3 hcs3
      obtain ⟨g1, g2, g3⟩ := fill_step hown hlen hlt hx
      have HN := Lib.hid g3
      have HB := Lib.hid (hbel.setCell (p := ⟨w.heap.size + 1, j, none⟩) (by simp) (.bool (x && y)))
      have HK := Lib.hid (hkp.setCell (p := ⟨w.heap.size + 1, j, none⟩) rfl (.bool (x && y)))
      clear hown hbel g3 hkp
      have b0 : (0 : Int) ≤ (j : Int) := by omega
      have b1 : (j : Int) < (l.shows.length : Int) := by omega
      cases x
      · go_wp2_with fail
        go_roundw
        case rel => exact ⟨j + 1, by omega, by go_num, HN.out, HB.out, HK.out⟩
        case measure => simp [intOf]; omega
      · go_wp2_with fail
        go_roundw
        case rel => exact ⟨j + 1, by omega, by go_num, HN.out, HB.out, HK.out⟩
        case measure => simp [intOf]; omega
    · obtain rfl : j = l.shows.length := by omega
      rw [fill_end hlen] at hown
      have HO := Lib.hid hown
      clear hown
      go_wp2_with fail
      go_ret2
      exact ⟨_, rfl, by rw [← HRES.out]; exact HO.out, hbel⟩

set_option maxRecDepth 100000 in
set_option maxHeartbeats 20000000 in
theorem true_can (lv : Value) (l : Lab) (A : Option Addr) (c : Nat) (f : List Int) (k : Nat) (p2 : Int) (sub : List Bool) (w : World) (hs : SmallLab l) (hl : RLab w lv l) (hf : f.length ≤ 200) (hA : Cells w A (ints f)) (hk : k + 1 < f.length) (h0 : f.getD k 0 = 4)
    (hsub : sub.length = l.shows.length) (hg : ∀ s ∈ l.steps, ∃ i j : Nat, s.1 = (i : Int) ∧ s.2.2 = (j : Int) ∧ i < l.shows.length ∧ j < l.shows.length)
    (Hsub : ∀ W, Below w.heap.size w W → Calls Tryz.prog 84 #[lv, .slice A f.length c, .int .i64 ((k : Int) + 2)] W fun e W' => ∃ v, e = .returned (.tuple #[v, .int .i64 p2]) ∧ W'.ownsRow W.heap.size 4 1 v l.shows.length (bools sub) ∧ Below W.heap.size W W') :
    Calls Tryz.prog 84 #[lv, .slice A f.length c, .int .i64 k] w fun e w' => ∃ v, e = .returned (.tuple #[v, .int .i64 (p2)]) ∧ w'.ownsRow w.heap.size 4 1 v l.shows.length (bools (rowT l.shows.length (f.getD (k + 1) 0) sub l.steps)) ∧ Below w.heap.size w w' := by
  obtain ⟨i0, hi, hz0, hz1, hz2⟩ := info_parts info_bool
  obtain ⟨sv, tv, rfl, hsv, htv⟩ := hl
  have HSV := Lib.hid (show ∀ W, Below w.heap.size w W → RSS W sv l.shows from fun W hb => hsv.below hb)
  have HT := Lib.hid (show ∀ W, Below w.heap.size w W → RA3 W tv l.steps from fun W hb => htv.below hb)
  obtain ⟨B, d, vs, rfl, hm, hvl, hcB, hrow⟩ := hsv
  obtain ⟨D, dd, rfl, hdm, _⟩ := htv
  have hn := hs.1
  have hn3 := hs.2.1
  have hsm := hs.2.2
  obtain ⟨b, o, rfl, hc⟩ := hA.int (k := k) (by omega)
  have c00 := hc k (by omega)
  rw [h0] at c00
  have HC0 := Lib.hid c00
  have HH := Lib.hid Hsub
  have HG := Lib.hid hg
  have c10 := hc (k + 1) hk
  have HC1 := Lib.hid c10
  clear c10 Hsub hg
  generalize f.getD (k + 1) 0 = lab at *
  have hr0 : (madeCells (Value.bool false).cells (l.shows.length * 1)).toList = bools (rowT l.shows.length lab sub (l.steps.take 0)) := by
    rw [List.take_zero, rowT_nil, fill_start _ (List.replicate l.shows.length false) (by simp), fillV_zero]
    simp
  have HR0 := Lib.hid hr0
  clear hr0
  clear c00 hc hA hvl hcB hrow
  go_enter Tryz.func84, Tryz.ntmps84
  go_wp2_with (first | (at_make; refine wpList_make_full _ rfl _ _ 79 rfl w.heap.size 4 i0 _ 1 Tryz.underlying79 hi hz0 hz1 _ _ _ _ l.shows.length rfl rfl rfl rfl (by rw [hz2]; omega) (by unfold maxLen; omega) (by simp) ?_; intro w1 hown hgrow; have hbel : Below w.heap.size w w1 := ((Below.refl _ _).alloc (Nat.le_refl _) _).grown hgrow (by simp) (by simp); have c0 := cell_below hbel HC0.out (lt_of_cell HC0.out); have q0 := cell_of_row w1 w.heap.size 0 _ _ _ ((hgrow.block w.heap.size (by simp) (by simp)).trans (heap_alloc_new _ _)); have q1 := cell_of_row w1 w.heap.size 1 _ _ _ ((hgrow.block w.heap.size (by simp) (by simp)).trans (heap_alloc_new _ _))) | fail)
  rw [HR0.out, World.size_alloc] at hown
  refine (HH.out w1 hbel).mono ?_
  rintro e w2 ⟨v2, rfl, ho2, hb2⟩
  obtain ⟨A2, c2, rfl, ho2⟩ := owns_form ho2
  have hown2 := owns_below hown hb2 (Nat.le_refl _)
  have hbel2 := hbel.trans (hb2.mono hbel.size)
  have hbx := (hb2.block w.heap.size (lt_of_cell q1)).trans ((hgrow.block w.heap.size (by simp) (by simp)).trans (heap_alloc_new _ _))
  have HO2 := Lib.hid (show Own w2 (fun b => w1.heap.size ≤ b) (.slice A2 l.shows.length c2) l.shows.length (bools sub) from (Own.of_owns ho2).mono (fun g hg => (ho2.lt g hg).1))
  have hlt1 : w.heap.size + 1 < w1.heap.size := (hown.lt _ rfl).2
  clear hgrow c0 q0 q1 hown ho2 hbel hb2
  go_wp2_with fail
  go_loopw [22] (fun i wr => ∃ j : Nat, j ≤ l.steps.length ∧ i = .int .i64 j ∧ wr.ownsRow w.heap.size 4 1 (.slice (some ⟨w.heap.size + 1, 0, none⟩) l.shows.length l.shows.length) l.shows.length (bools (rowT l.shows.length lab sub (l.steps.take j))) ∧ Below w.heap.size w wr ∧ Kept (fun b => b = w.heap.size + 1) w2 wr ∧ wr.heap[w.heap.size]? = some (.cells #[.slice B l.shows.length d, .slice D l.steps.length dd] 27))
    (fun i _ => l.steps.length - (intOf i).toNat)
  case atStart => exact ⟨0, Nat.zero_le _, rfl, hown2, hbel2, Kept.refl _ _, hbx⟩
  case round =>
    clear hown2 hbel2 hbx
    obtain ⟨j, hj, rfl, hown, hbel, hkp, hbox⟩ := hrel
    by_cases hlt : j < l.steps.length
    · have q1 := cell_of_row wr _ 1 _ _ _ hbox
      obtain ⟨A', c', e, hcs⟩ := (HO2.out.kept hkp (fun b h1 h2 => by omega)).cells
      cases e
      obtain ⟨bD, oD, cD, e, hk0, hk1, hk2⟩ := (HT.out wr hbel).at_ (List.getElem?_eq_getElem hlt)
      cases e
      obtain ⟨p, q, hp, hq, hpn, hqn⟩ := HG.out _ (List.getElem_mem hlt)
      have HSTEP := Lib.hid (rowT_step (n := l.shows.length) (d := lab) (ends := sub) (List.getElem?_eq_getElem hlt) hp hpn)
      have hq2 : l.steps[j].2.2.toNat = q := by omega
      rw [hq2] at HSTEP
      obtain ⟨b2, o2, rfl, hcb⟩ := hcs.at_ (k := q) (by simp; omega)
      have hjs : q < sub.length := by omega
      have hcj := hcb q (.bool sub[q]) (by simp [hjs])
      rw [show sub.getD q false = sub[q] by simp [List.getD, hjs]] at HSTEP
      have hx := rowT_at (d := lab) (ends := sub) (ss := l.steps.take j) hpn
      rw [hp] at hk0
      rw [hq] at hk2
      clear hp hq hq2
      generalize l.steps[j] = s at *
      generalize sub[q] = y at *
      generalize canT lab sub (l.steps.take j) p = x at *
      have b0 : (0 : Int) ≤ (j : Int) := by omega
      have b1 : (j : Int) < (l.steps.length : Int) := by omega
      have b2' : (0 : Int) ≤ (p : Int) := by omega
      have b3 : (p : Int) < (l.shows.length : Int) := by omega
      have b4 : (0 : Int) ≤ (q : Int) := by omega
      have b5 : (q : Int) < (l.shows.length : Int) := by omega
      have hw : IntKind.i64.wrap ((k : Int) + 1) = (k : Int) + 1 := IntWalk.i64_in _ (by omega)
      have b6 : (0 : Int) ≤ (k : Int) + 1 := by omega
      have b7 : (k : Int) + 1 < (f.length : Int) := by omega
      have c1 := cell_below hbel HC1.out (lt_of_cell HC1.out)
      clear hcb hcs
      go_wp2_with fail
      have hA : Below wr.heap.size wr (wr.alloc (.cells #[.int .i64 p, .int .i64 s.2.1, .int .i64 q] 103)) := (Below.refl _ _).alloc (Nat.le_refl _) _
      have hbx := heap_alloc_new wr (.cells #[.int .i64 p, .int .i64 s.2.1, .int .i64 q] 103)
      have s0 := cell_of_row _ wr.heap.size 0 _ _ _ hbx
      have s1 := cell_of_row _ wr.heap.size 1 _ _ _ hbx
      have s2 := cell_of_row _ wr.heap.size 2 _ _ _ hbx
      have hcja := cell_below hA hcj (lt_of_cell hcj)
      have c1a := cell_below hA c1 (lt_of_cell c1)
      have HBL := Lib.hid (hbel.trans (hA.mono hbel.size))
      have HKA := Lib.hid (hkp.trans (Kept.of_below hA (fun b => b = w.heap.size + 1)))
      have howA := owns_below hown hA (Nat.le_refl _)
      have HOA := Lib.hid howA
      obtain ⟨g1a, g2a, g3a⟩ := row_cell howA (rowT_len _ _ _ _) hpn hx true
      have HG3 := Lib.hid g3a
      have HBXA := Lib.hid ((hA.block w.heap.size (lt_of_cell q1)).trans hbox)
      have hx' : (rowT l.shows.length lab sub (l.steps.take j))[p]? = some x := hx
      clear hA hbx hcj c1 hbel hkp hown howA g3a hbox q1 hx
      generalize wr.alloc (.cells #[.int .i64 p, .int .i64 s.2.1, .int .i64 q] 103) = W at *
      cases hsl : s.2.1 == lab
      · rw [hsl, Bool.false_and, Bool.or_false, set_same hx'] at HSTEP
        have n3 := HOA.out
        rw [HSTEP.out] at n3
        have HN := Lib.hid n3
        have HB := Lib.hid (fun n => (show Below w.heap.size w (W.drewN n) from below_drewN' HBL.out n))
        have HK := Lib.hid (fun n => (show Kept (fun b => b = w.heap.size + 1) w2 (W.drewN n) from ⟨HKA.out.os, HKA.out.tape, HKA.out.output, HKA.out.size, HKA.out.block⟩))
        have HX := Lib.hid (show W.drew.heap[w.heap.size]? = _ from HBXA.out)
        go_quiet (fail)
        go_wp2_with fail
        go_roundw
        case rel => exact ⟨j + 1, by omega, by go_num, HN.out, HB.out _, HK.out _, HX.out⟩
        case measure => simp [intOf]; omega
      · rw [hsl, Bool.true_and] at HSTEP
        cases y
        · rw [Bool.or_false, set_same hx'] at HSTEP
          have n3 := HOA.out
          rw [HSTEP.out] at n3
          have HN := Lib.hid n3
          have HB := Lib.hid (fun n => (show Below w.heap.size w (W.drewN n) from below_drewN' HBL.out n))
          have HK := Lib.hid (fun n => (show Kept (fun b => b = w.heap.size + 1) w2 (W.drewN n) from ⟨HKA.out.os, HKA.out.tape, HKA.out.output, HKA.out.size, HKA.out.block⟩))
          have HX := Lib.hid (show W.drew.heap[w.heap.size]? = _ from HBXA.out)
          go_quiet (fail)
          go_wp2_with fail
          go_roundw
          case rel => exact ⟨j + 1, by omega, by go_num, HN.out, HB.out _, HK.out _, HX.out⟩
          case measure => simp [intOf]; omega
        · rw [Bool.or_true] at HSTEP
          have n3 := HG3.out
          rw [HSTEP.out] at n3
          have HN := Lib.hid n3
          have HB := Lib.hid (fun n => (show Below w.heap.size w (W.drewN n) from below_drewN' HBL.out n).setCell (p := ⟨w.heap.size + 1, p, none⟩) (by simp) (.bool true))
          have HK := Lib.hid (fun n => (show Kept (fun b => b = w.heap.size + 1) w2 (W.drewN n) from ⟨HKA.out.os, HKA.out.tape, HKA.out.output, HKA.out.size, HKA.out.block⟩).setCell (p := ⟨w.heap.size + 1, p, none⟩) rfl (.bool true))
          have HX := Lib.hid (show (W.drew.setCell ⟨w.heap.size + 1, p, none⟩ (.bool true)).heap[w.heap.size]? = _ from (Below.heap_setCell W.drew ⟨w.heap.size + 1, p, none⟩ (.bool true) w.heap.size (by simp)).trans HBXA.out)
          go_quiet (fail)
          go_wp2_with fail
          go_roundw
          case rel => exact ⟨j + 1, by omega, by go_num, HN.out, HB.out _, HK.out _, HX.out⟩
          case measure => simp [intOf]; omega
    · obtain rfl : j = l.steps.length := by omega
      rw [List.take_length] at hown
      have HO := Lib.hid hown
      have q1 := cell_of_row wr _ 1 _ _ _ hbox
      clear hown
      go_wp2_with fail
      go_ret2
      exact ⟨_, rfl, HO.out, hbel⟩

end Go.Proofs.YtdgnhfhaaghoaaaGreatDoor
