/- Which states satisfy a formula: reference walked. Which states satisfy a formula: program and reference, the five cases joined. The states that satisfy a formula, listed: program and reference walked. What the formula of TellApart tells: the first state satisfies it, the second does not, and their parts differ. Plain law. -/
import Derived.Test.YtdgnhfhaaghoaaaGreatDoorProg
import Derived.Test.YtdgnhfhaaghoaaaGreatDoorJ24
import Derived.Test.YtdgnhfhaaghoaaaGreatDoorJ34
import Derived.Test.YtdgnhfhaaghoaaaGreatDoorJ35
import Derived.Test.YtdgnhfhaaghoaaaGreatDoorJ19
set_option linter.unusedSimpArgs false
set_option linter.unusedVariables false
namespace Go.Proofs.YtdgnhfhaaghoaaaGreatDoor
open Go.RowKit

set_option maxRecDepth 100000 in
set_option maxHeartbeats 20000000 in
theorem true_and (lv : Value) (l : Lab) (A : Option Addr) (c : Nat) (f : List Int) (k : Nat) (p2 p3 : Int) (sub sec : List Bool) (w : World) (hs : SmallLab l) (hl : RLab w lv l) (hf : f.length ≤ 200) (hA : Cells w A (ints f)) (hk : k < f.length) (h0 : f.getD k 0 = 3)
    (hsub : sub.length = l.shows.length) (hsec : sec.length = l.shows.length)
    (Hsub : ∀ W, Below w.heap.size w W → Calls Tryz.prog 84 #[lv, .slice A f.length c, .int .i64 ((k : Int) + 1)] W fun e W' => ∃ v, e = .returned (.tuple #[v, .int .i64 p2]) ∧ W'.ownsRow W.heap.size 4 1 v l.shows.length (bools sub) ∧ Below W.heap.size W W')
    (Hsec : ∀ W, Below w.heap.size w W → Calls Tryz.prog 84 #[lv, .slice A f.length c, .int .i64 p2] W fun e W' => ∃ v, e = .returned (.tuple #[v, .int .i64 p3]) ∧ W'.ownsRow W.heap.size 4 1 v l.shows.length (bools sec) ∧ Below W.heap.size W W') :
    Calls Tryz.prog 84 #[lv, .slice A f.length c, .int .i64 k] w fun e w' => ∃ v, e = .returned (.tuple #[v, .int .i64 (p3)]) ∧ w'.ownsRow w.heap.size 4 1 v l.shows.length (bools (List.zipWith (· && ·) sub sec)) ∧ Below w.heap.size w w' := by
  obtain ⟨i0, hi, hz0, hz1, hz2⟩ := info_parts info_bool
  obtain ⟨sv, tv, rfl, hsv, htv⟩ := hl
  have HSV := Lib.hid (show ∀ W, Below w.heap.size w W → RSS W sv l.shows from fun W hb => hsv.below hb)
  have HT := Lib.hid (show ∀ W, Below w.heap.size w W → RA3 W tv l.steps from fun W hb => htv.below hb)
  obtain ⟨B, d, vs, rfl, hm, hvl, hcB, hrow⟩ := hsv
  obtain ⟨D, dd, rfl, hdm, _⟩ := htv
  have hn := hs.1
  have hn3 := hs.2.1
  have hsm := hs.2.2
  obtain ⟨b, o, rfl, hc⟩ := hA.int (k := k) (by omega)
  have c00 := hc k (by omega)
  rw [h0] at c00
  have HC0 := Lib.hid c00
  have HH := Lib.hid Hsub
  have HH2 := Lib.hid Hsec
  clear Hsub Hsec
  obtain ⟨res, hres⟩ : ∃ res, res = List.zipWith (· && ·) sub sec := ⟨_, rfl⟩
  have hlen : res.length = l.shows.length := by rw [hres]; simp [hsub, hsec]
  have HAT := Lib.hid (show ∀ (j : Nat) x y, sub[j]? = some x → sec[j]? = some y → res[j]? = some (x && y) from fun j x y h1 h2 => by rw [hres, List.getElem?_zipWith, h1, h2])
  have HRES := Lib.hid hres
  clear hres
  clear c00 hc hA hvl hcB hrow
  go_enter Tryz.func84, Tryz.ntmps84
  go_wp2_with (first | (at_make; refine wpList_make_full _ rfl _ _ 79 rfl w.heap.size 4 i0 _ 1 Tryz.underlying79 hi hz0 hz1 _ _ _ _ l.shows.length rfl rfl rfl rfl (by rw [hz2]; omega) (by unfold maxLen; omega) (by simp) ?_; intro w1 hown hgrow; have hbel : Below w.heap.size w w1 := ((Below.refl _ _).alloc (Nat.le_refl _) _).grown hgrow (by simp) (by simp); have c0 := cell_below hbel HC0.out (lt_of_cell HC0.out); have q0 := cell_of_row w1 w.heap.size 0 _ _ _ ((hgrow.block w.heap.size (by simp) (by simp)).trans (heap_alloc_new _ _)); have q1 := cell_of_row w1 w.heap.size 1 _ _ _ ((hgrow.block w.heap.size (by simp) (by simp)).trans (heap_alloc_new _ _))) | fail)
  rw [fill_start _ res hlen, World.size_alloc] at hown
  refine (HH.out w1 hbel).mono ?_
  rintro e w1a ⟨v1, rfl, ho1, hb1⟩
  obtain ⟨A1, c1, rfl, ho1⟩ := owns_form ho1
  have hs1 : w1.heap.size ≤ w1a.heap.size := hb1.size
  have q0a := cell_below hb1 q0 (lt_of_cell q0)
  have q1a := cell_below hb1 q1 (lt_of_cell q1)
  have hlt1 : w.heap.size + 1 < w1.heap.size := (hown.lt _ rfl).2
  have hown1 := owns_below hown hb1 (Nat.le_refl _)
  have hbel1 : Below w.heap.size w w1a := hbel.trans (hb1.mono hbel.size)
  clear hb1
  go_wp2_with fail
  refine (HH2.out w1a hbel1).mono ?_
  rintro e w2 ⟨v2, rfl, ho2, hb2⟩
  obtain ⟨A2, c2, rfl, ho2⟩ := owns_form ho2
  have HO1 := Lib.hid (show Own w2 (fun b => w1.heap.size ≤ b) (.slice A1 l.shows.length c1) l.shows.length (bools sub) from ((Own.of_owns ho1).below hb2 (Nat.le_refl _)).mono (fun g hg => (ho1.lt g hg).1))
  have hown2 := owns_below hown1 hb2 (Nat.le_refl _)
  have hbel2 := hbel1.trans (hb2.mono hbel1.size)
  have HO2 := Lib.hid (show Own w2 (fun b => w1.heap.size ≤ b) (.slice A2 l.shows.length c2) l.shows.length (bools sec) from (Own.of_owns ho2).mono (fun g hg => Nat.le_trans hs1 (ho2.lt g hg).1))
  clear hgrow c0 q0 q1 q0a q1a hown hown1 ho1 ho2 hbel hbel1 hb2
  go_wp2_with fail
  go_loopw [19] (fun i wr => ∃ j : Nat, j ≤ l.shows.length ∧ i = .int .i64 j ∧ wr.ownsRow w.heap.size 4 1 (.slice (some ⟨w.heap.size + 1, 0, none⟩) l.shows.length l.shows.length) l.shows.length (bools (fillV res false j)) ∧ Below w.heap.size w wr ∧ Kept (fun b => b = w.heap.size + 1) w2 wr)
    (fun i _ => l.shows.length - (intOf i).toNat)
  case atStart => exact ⟨0, Nat.zero_le _, rfl, hown2, hbel2, Kept.refl _ _⟩
  case round =>
    clear hown2 hbel2
    obtain ⟨j, hj, rfl, hown, hbel, hkp⟩ := hrel
    by_cases hlt : j < l.shows.length
    · obtain ⟨A', c', e, hcs⟩ := (HO1.out.kept hkp (fun b h1 h2 => by omega)).cells
      cases e
      obtain ⟨b2, o2, rfl, hcb⟩ := hcs.at_ (k := j) (by simp; omega)
      obtain ⟨A3, c3, e, hcs3⟩ := (HO2.out.kept hkp (fun b h1 h2 => by omega)).cells
      cases e
      obtain ⟨b3, o3, rfl, hcb3⟩ := hcs3.at_ (k := j) (by simp; omega)
      have hjs : j < sub.length := by omega
      have hjs3 : j < sec.length := by omega
      have hcj := hcb j (.bool sub[j]) (by simp [hjs])
      have hcj3 := hcb3 j (.bool sec[j]) (by simp [hjs3])
      have hx := HAT.out j _ _ (List.getElem?_eq_getElem hjs) (List.getElem?_eq_getElem hjs3)
      generalize sub[j] = x at *
      generalize sec[j] = y at *
      clear hcb hcs hcb3 hcs3
      obtain ⟨g1, g2, g3⟩ := fill_step hown hlen hlt hx
      have HN := Lib.hid g3
      have HB := Lib.hid (hbel.setCell (p := ⟨w.heap.size + 1, j, none⟩) (by simp) (.bool (x && y)))
      have HK := Lib.hid (hkp.setCell (p := ⟨w.heap.size + 1, j, none⟩) rfl (.bool (x && y)))
      clear hown hbel g3 hkp
      have b0 : (0 : Int) ≤ (j : Int) := by omega
      have b1 : (j : Int) < (l.shows.length : Int) := by omega
      cases x
      · go_wp2_with fail
        go_roundw
        case rel => exact ⟨j + 1, by omega, by go_num, HN.out, HB.out, HK.out⟩
        case measure => simp [intOf]; omega
      · go_wp2_with fail
        go_roundw
        case rel => exact ⟨j + 1, by omega, by go_num, HN.out, HB.out, HK.out⟩
        case measure => simp [intOf]; omega
    · obtain rfl : j = l.shows.length := by omega
      rw [fill_end hlen] at hown
      have HO := Lib.hid hown
      clear hown
      go_wp2_with fail
      go_ret2
      exact ⟨_, rfl, by rw [← HRES.out]; exact HO.out, hbel⟩

end Go.Proofs.YtdgnhfhaaghoaaaGreatDoor

set_option linter.unusedVariables false
namespace Go.Proofs.YtdgnhfhaaghoaaaGreatDoor
open Go.RowKit

/-- The steps of a good labelled system are in range. -/
def StepsIn (l : Lab) : Prop := ∀ s ∈ l.steps, ∃ i j : Nat, s.1 = (i : Int) ∧ s.2.2 = (j : Int) ∧ i < l.shows.length ∧ j < l.shows.length

theorem allR_at {n : Nat} {p : Nat → Bool} (h : allR n p = true) {k : Nat} (hk : k < n) : p k = true := by
  unfold allR at h
  exact List.all_eq_true.1 h k (List.mem_range.2 hk)

theorem good_steps {l : Lab} (h : goodLab l = true) : StepsIn l := by
  intro s hs
  unfold goodLab at h
  simp only [Bool.and_eq_true] at h
  obtain ⟨i, hi, rfl⟩ := List.getElem_of_mem hs
  have h1 := allR_at h.2.1 hi
  unfold stepAt stepIn at h1
  simp only [Bool.and_eq_true] at h1
  have e : l.steps.getD i (0, 0, 0) = l.steps[i] := by simp [List.getD, hi]
  rw [e] at h1
  have a := inB_true h1.1.1
  have b := inB_true h1.1.2.2
  exact ⟨l.steps[i].1.toNat, l.steps[i].2.2.toNat, by omega, by omega, by omega, by omega⟩

theorem satB_can (l : Lab) (f : List Int) (n k : Nat) (h : f.getD k 0 = 4) : satB l f (n + 1) k = rowT l.shows.length (f.getD (k + 1) 0) (satB l f n ((k : Int) + 2)) l.steps := by
  rw [satB, Int.toNat_natCast, h]
  rfl

theorem sat_any (lv : Value) (l : Lab) (A : Option Addr) (c : Nat) (f : List Int) (hs : SmallLab l) (hg : StepsIn l) (hf : f.length ≤ 200) :
    ∀ (n k : Nat) (w : World), RLab w lv l → Cells w A (ints f) → f.length ≤ k + n → 0 ≤ fEnd n f k →
    Calls Tryz.prog 62 #[lv, .slice A f.length c, .int .i64 k] w fun e w' => ∃ v, e = .returned v ∧ w'.ownsRow w.heap.size 4 1 v l.shows.length (bools (satB l f n k)) ∧ Below w.heap.size w w' := by
  intro n
  induction n with
  | zero => intro k w _ _ _ h; simp [fEnd] at h
  | succ n ih =>
    intro k w hl hA hn h
    have hk := fEnd_p0 h
    have hI : ∀ (p : Nat), k + 1 ≤ p → 0 ≤ fEnd n f p → ∀ W, Below w.heap.size w W → Calls Tryz.prog 62 #[lv, .slice A f.length c, .int .i64 p] W fun e W' => ∃ v, e = .returned v ∧ W'.ownsRow W.heap.size 4 1 v l.shows.length (bools (satB l f n p)) ∧ Below W.heap.size W W' :=
      fun p hp he W hb => ih p W (hl.below hb) (hA.below hb) (by omega) he
    rcases fEnd_step h with ⟨h0, h1⟩ | ⟨h0, hk1, ha, hb, h1⟩ | ⟨h0, h1⟩ | ⟨h0, ha, h1⟩ | ⟨h0, hk1, ha, hb, h1⟩
    · have e : satB l f (n + 1) k = l.shows.map (fun _ => true) := by rw [satB, Int.toNat_natCast, h0]; rfl
      rw [e]
      exact sat_true lv l A c f k w hs hl hf hA (by omega) h0
    · have e : satB l f (n + 1) k = l.shows.map (fun m => hasI m (f.getD (k + 1) 0)) := by rw [satB, Int.toNat_natCast, h0]; rfl
      rw [e]
      exact sat_mark lv l A c f k w hs hl hf hA hk1 h0
    · have e : satB l f (n + 1) k = (satB l f n ((k : Int) + 1)).map (!·) := by rw [satB, Int.toNat_natCast, h0]; rfl
      rw [e]
      rw [h1] at h
      exact sat_not lv l A c f k _ w hs hl hf hA (by omega) h0 (satB_len l f n _ h) (hI (k + 1) (Nat.le_refl _) h)
    · have e : satB l f (n + 1) k = List.zipWith (· && ·) (satB l f n ((k : Int) + 1)) (satB l f n (fEnd n f ((k : Int) + 1))) := by rw [satB, Int.toNat_natCast, h0]; rfl
      rw [e]
      rw [h1] at h
      have hp := fEnd_pos ha
      have hF := fun W (hb : Below w.heap.size w W) => formulaEnd_any A c f (by omega) W (.of_cells (hA.below hb)) n ((k : Int) + 1) (by omega) (by omega) (by omega)
      have hl1 := satB_len l f n _ ha
      have hi1 := hI (k + 1) (Nat.le_refl _) ha
      generalize fEnd n f ((k : Int) + 1) = p2 at *
      obtain ⟨m, rfl⟩ := Int.eq_ofNat_of_zero_le ha
      exact sat_and lv l A c f k m _ _ w hs hl hf hA (by omega) h0 hl1 (satB_len l f n _ h) hF (hI m (by omega) h) hi1
    · rw [satB_can l f n k h0]
      rw [h1] at h
      exact sat_can lv l A c f k _ w hs hl hf hA hk1 h0 (satB_len l f n _ h) hg (hI (k + 2) (by omega) h)

end Go.Proofs.YtdgnhfhaaghoaaaGreatDoor

set_option linter.unusedVariables false
namespace Go.Proofs.YtdgnhfhaaghoaaaGreatDoor
open Go.RowKit

theorem info_i : (Tryz.prog.info? 3).map (fun i => (i.zero, i.size, i.bytes)) = some (some (.int .i64 0), 1, 8) := by kernel_rfl

/-- The places of a row at which it is true, below k. -/
def whichB (bs : List Bool) (k : Nat) : List Int := ((List.range k).filter fun i => bs.getD i false).map fun (i : Nat) => (i : Int)
theorem which_len (bs : List Bool) (k : Nat) : (whichB bs k).length ≤ k := by
  unfold whichB
  rw [List.length_map]
  exact Nat.le_trans (List.length_filter_le _ _) (by simp)
theorem which_yes {bs : List Bool} {k : Nat} (h : bs[k]? = some true) : whichB bs (k + 1) = whichB bs k ++ [(k : Int)] := by
  unfold whichB
  rw [List.range_succ, List.filter_append, List.map_append]
  simp [List.getD, h]
theorem which_no {bs : List Bool} {k : Nat} (h : bs[k]? = some false) : whichB bs (k + 1) = whichB bs k := by
  unfold whichB
  rw [List.range_succ, List.filter_append, List.map_append]
  simp [List.getD, h]

theorem owns_apart {w : World} {B1 B2 : Nat} {e1 e2 : TypeId} {s1 s2 : Nat} {v1 v2 : Value} {n1 n2 : Nat} {xs1 xs2 : List Value} (h1 : w.ownsRow B1 e1 s1 v1 n1 xs1) (h2 : w.ownsRow B2 e2 s2 v2 n2 xs2) (he : e1 ≠ e2) (g : Nat) (hg : v1.ownBlock = some g) : v2.ownBlock ≠ some g := by
  intro hg2
  rcases h1.2 with ⟨rfl, _⟩ | ⟨g1, _, _, rfl, _, a1, _⟩
  · simp [Value.ownBlock] at hg
  · rcases h2.2 with ⟨rfl, _⟩ | ⟨g2, _, _, rfl, _, a2, _⟩
    · simp [Value.ownBlock] at hg2
    · simp only [Value.ownBlock, Option.some.injEq] at hg hg2
      subst hg
      subst hg2
      rw [a1] at a2
      injection a2 with a2
      injection a2 with _ a2
      exact he a2
theorem owns_fresh (w : World) (xs : List Value) (e : TypeId) (n : Nat) (hn : xs.length = n) (h0 : n ≤ 1000) :
    (w.alloc (.cells xs.toArray e)).ownsRow w.heap.size e 1 (.slice (some ⟨w.heap.size, 0, none⟩) n n) n xs := by
  subst hn
  exact ⟨by omega, .inr ⟨w.heap.size, xs.length, xs.toArray, rfl, Nat.le_refl _, heap_alloc_new _ _, Nat.le_refl _, by unfold maxLen; omega, by simp, by simp⟩⟩
theorem owns_grown {w w' : World} {B : Nat} {e : TypeId} {s : Nat} {v : Value} {n : Nat} {xs : List Value} {row : Option Nat} (h : w.ownsRow B e s v n xs) (hg : w.grownBy w' row) (hne : ∀ g, v.ownBlock = some g → row ≠ some g) : w'.ownsRow B e s v n xs := by
  refine ⟨h.1, ?_⟩
  rcases h.2 with hn | ⟨g, cap, cur, rfl, hbg, hgg, rest⟩
  · exact .inl hn
  · have hlt := (Array.getElem?_eq_some_iff.1 hgg).1
    exact .inr ⟨g, cap, cur, rfl, hbg, by rw [hg.block g hlt (hne g rfl).symm]; exact hgg, rest⟩

def okS (l : Lab) (f : List Int) : Bool := goodLab l && isF f
def satS (l : Lab) (f : List Int) : List Int := if okS l f then whichB (satB l f f.length 0) l.shows.length else []

theorem isF_parts {f : List Int} (h : isF f = true) : 1 ≤ f.length ∧ f.length ≤ 200 ∧ fEnd f.length f (0 : Nat) = f.length := by
  unfold isF at h
  simp only [Bool.and_eq_true, beq_iff_eq] at h
  have := inB_true h.1
  exact ⟨by omega, by omega, h.2⟩
theorem good_len {l : Lab} (h : goodLab l = true) : 1 ≤ l.shows.length ∧ l.shows.length ≤ 40 := by
  unfold goodLab at h
  simp only [Bool.and_eq_true] at h
  have := inB_true h.1
  exact ⟨by omega, by omega⟩

set_option maxRecDepth 100000 in
set_option maxHeartbeats 2000000 in
theorem implSatisfying_any (v : Value) (l : Lab) (A : Option Addr) (c : Nat) (f : List Int) (w : World) (hs : SmallLab l) (hv : RLab w v l) (hf : f.length ≤ 1048576) (hA : Cells w A (ints f)) :
    Calls Tryz.prog 15 #[v, .slice A f.length c] w fun e w' => ∃ u, e = .returned (.tuple #[u, .bool (okS l f)]) ∧ w'.ownsRow w.heap.size 3 1 u (satS l f).length (ints (satS l f)) ∧ Below w.heap.size w w' := by
  obtain ⟨i0, hi, hz0, hz1, hz2'⟩ := info_parts info_i
  have hb1 : ∀ o, Below w.heap.size w (w.alloc o) := fun o => (Below.refl _ _).alloc (Nat.le_refl _) o
  have H1 := Lib.hid (fun o => implIsLabelled_any v l (w.alloc o) hs (hv.below (hb1 o)))
  have HV := Lib.hid (show ∀ W, Below w.heap.size w W → RLab W v l from fun W hb => hv.below hb)
  have HA := Lib.hid (show ∀ W, Below w.heap.size w W → Cells W A (ints f) from fun W hb => hA.below hb)
  obtain ⟨sv, tv, rfl, _, _⟩ := hv
  have HB1 := Lib.hid hb1
  clear hb1 hA
  cases hg : goodLab l
  · have E1 := Lib.hid (show okS l f = false by simp [okS, hg])
    have E2 := Lib.hid (show satS l f = [] by simp [satS, okS, hg])
    rw [hg] at H1
    go_enter Tryz.func15, Tryz.ntmps15
    go_wp2_with fail
    refine (H1.out _).mono ?_
    rintro e w1 ⟨rfl, hw1⟩
    go_wp2_with fail
    go_ret2
    rw [E1.out, E2.out]
    exact ⟨_, rfl, World.ownsRow_nil _ _ _ _, (HB1.out _).trans (hw1.mono (HB1.out _).size)⟩
  · rw [hg] at H1
    cases hF : isF f
    · have E1 := Lib.hid (show okS l f = false by simp [okS, hF])
      have E2 := Lib.hid (show satS l f = [] by simp [satS, okS, hF])
      have H2 := Lib.hid (fun W hb => implIsFormula_any A c f W hf (HA.out W hb))
      rw [hF] at H2
      go_enter Tryz.func15, Tryz.ntmps15
      go_wp2_with fail
      refine (H1.out _).mono ?_
      rintro e w1 ⟨rfl, hw1⟩
      have hz := (HB1.out _).trans (hw1.mono (HB1.out _).size)
      clear hw1
      go_wp2_with fail
      refine (H2.out w1 hz).mono ?_
      rintro e w1' ⟨rfl, rfl⟩
      go_wp2_with fail
      go_ret2
      rw [E1.out, E2.out]
      exact ⟨_, rfl, World.ownsRow_nil _ _ _ _, hz⟩
    · have E1 := Lib.hid (show okS l f = true by simp [okS, hg, hF])
      have E2 := Lib.hid (show satS l f = whichB (satB l f f.length 0) l.shows.length by simp [satS, okS, hg, hF])
      have H2 := Lib.hid (fun W hb => implIsFormula_any A c f W hf (HA.out W hb))
      rw [hF] at H2
      obtain ⟨f1, f2, f3⟩ := isF_parts hF
      obtain ⟨l1, l2⟩ := good_len hg
      have H3 := Lib.hid (fun W hb => sat_any (.agg #[sv, tv]) l A c f hs (good_steps hg) f2 f.length 0 W (HV.out W hb) (HA.out W hb) (by omega) (by rw [f3]; omega))
      have hlen := satB_len l f f.length (0 : Nat) (by rw [f3]; omega)
      rw [show ((0 : Nat) : Int) = 0 from rfl] at H3 hlen
      generalize satB l f f.length 0 = bs at *
      clear f3 hF hg
      go_enter Tryz.func15, Tryz.ntmps15
      go_wp2_with fail
      refine (H1.out _).mono ?_
      rintro e w1 ⟨rfl, hw1⟩
      obtain ⟨bx, hlt1⟩ := one_box hw1
      have x0 : w1.cell? ⟨w.heap.size, 0, none⟩ = some sv := cell_of_row _ _ _ _ _ _ bx
      have x1 : w1.cell? ⟨w.heap.size, 1, none⟩ = some tv := cell_of_row _ _ _ _ _ _ bx
      have hz := (HB1.out _).trans (hw1.mono (HB1.out _).size)
      clear hw1 bx
      go_wp2_with fail
      refine (H2.out w1 hz).mono ?_
      rintro e w1' ⟨rfl, rfl⟩
      go_wp2_with fail
      have hz2 : Below w.heap.size w (w1.alloc (.cells #[] 3)) := hz.alloc hz.size _
      have ho1 : (w1.alloc (.cells #[] 3)).ownsRow w.heap.size 3 1 (.slice (some ⟨w1.heap.size, 0, none⟩) 0 0) 0 (ints []) := owns_mono (owns_fresh w1 [] _ 0 rfl (by decide)) hz.size
      refine (H3.out _ hz2).mono ?_
      rintro e w3 ⟨v3, rfl, ho3, hw3⟩
      obtain ⟨A3, c3, rfl, ho3⟩ := owns_form ho3
      have ho13 := owns_below ho1 hw3 (Nat.le_refl _)
      have hz3 := hz2.trans (hw3.mono hz2.size)
      have ho33 := owns_mono ho3 hz2.size
      clear ho1 ho3 hw3 hz hz2 x0 x1
      go_wp2_with fail
      go_loopw [6, 22] (fun u i wr => ∃ k : Nat, k ≤ l.shows.length ∧ i = .int .i64 k ∧ wr.ownsRow w.heap.size 3 1 u (whichB bs k).length (ints (whichB bs k)) ∧ wr.ownsRow w.heap.size 4 1 (.slice A3 l.shows.length c3) l.shows.length (bools bs) ∧ Below w.heap.size w wr)
        (fun _ i _ => l.shows.length - (intOf i).toNat)
      case atStart => exact ⟨0, Nat.zero_le _, rfl, ho13, ho33, hz3⟩
      case round =>
        clear ho13 ho33 hz3
        obtain ⟨k, hk, rfl, hown, hrow, hbel⟩ := hrel
        obtain ⟨AO, cO, rfl, hown⟩ := owns_form hown
        by_cases hlt : k < l.shows.length
        · have hkb : k < bs.length := by omega
          obtain ⟨b, o, rfl, hcb⟩ := (Cells.of_owns hrow).at_ (k := k) (by simp; omega)
          have hck := hcb k (.bool bs[k]) (by simp [hkb])
          have hbk : bs[k]? = some bs[k] := List.getElem?_eq_getElem hkb
          have HO := Lib.hid hown
          have HR := Lib.hid hrow
          have HB := Lib.hid hbel
          have hsz := hbel.size
          have hwl := which_len bs k
          have b0 : (0 : Int) ≤ (k : Int) := by omega
          have b1 : (k : Int) < (l.shows.length : Int) := by omega
          generalize bs[k] = x at *
          clear hown hrow hbel hcb
          cases x
          · have hn := which_no hbk
            have HN := Lib.hid hn
            clear hn hbk
            go_wp2_with fail
            go_roundw
            case rel => exact ⟨k + 1, by omega, by go_num, by rw [HN.out]; exact HO.out, HR.out, HB.out⟩
            case measure => simp [intOf]; omega
          · have hn := which_yes hbk
            have HN := Lib.hid hn
            clear hn hbk
            go_wp2_with (at_builtin; refine wpList_append_own _ rfl _ _ 30 rfl w.heap.size 3 i0 (.int .i64 0) 1 8 Tryz.underlying30 hi hz0 hz1 hz2' rfl (by decide) _ _ _ rfl (HO.out.alloc _) ⟨wr.heap.size, 0, none⟩ 1 1 [.int .i64 k] rfl rfl ?c1 ?c2 ?c3 ?c4 ?c5 ?_)
            case c1 => intro j u hj; match j, hj with | 0, hj => (simp at hj; subst hj; simp [Addr.add])
            case c2 => intro u hu; simp at hu; subst hu; rfl
            case c3 => unfold maxLen; omega
            case c4 => omega
            case c5 => simp; omega
            intro v2 w2 hown2 hgrow2 _
            have e1 : (whichB bs k).length + 1 = (whichB bs (k + 1)).length := by rw [HN.out]; simp
            have e2 : ints (whichB bs k) ++ [.int .i64 k] = ints (whichB bs (k + 1)) := by rw [HN.out]; simp
            rw [e1, e2] at hown2
            have HO2 := Lib.hid hown2
            have HG2 := Lib.hid ((HB.out.alloc hsz _).grown hgrow2 (by simp; omega) (fun k hk => (HO.out.lt k hk).1))
            have HR2 := Lib.hid (owns_grown (HR.out.alloc _) hgrow2 (fun g hg => owns_apart HR.out HO.out (by decide) g hg))
            clear hown2 hgrow2 e1 e2
            go_wp2
            go_roundw
            case rel => exact ⟨k + 1, by omega, by go_num, HO2.out, HR2.out, HG2.out⟩
            case measure => simp [intOf]; omega
        · obtain rfl : k = l.shows.length := by omega
          have HO := Lib.hid hown
          clear hown
          go_wp2_with fail
          go_ret2
          rw [E1.out, E2.out]
          exact ⟨_, rfl, HO.out, hbel⟩

end Go.Proofs.YtdgnhfhaaghoaaaGreatDoor

set_option linter.unusedVariables false
namespace Go.Proofs.YtdgnhfhaaghoaaaGreatDoor
open Go.RowKit

theorem goodL_of {l : Lab} (h : goodLab l = true) : GoodL l where
  some_ := (goodF_size h).1
  steps := goodF_steps h
  acts := goodF_acts h
  marks := fun i hi => ⟨(goodF_row h hi).1, (goodF_row h hi).2.1⟩
theorem which_mem {bs : List Bool} {k i : Nat} (h : i < k) : (whichB bs k).contains (i : Int) = bs.getD i false := by
  rw [Bool.eq_iff_iff, List.contains_iff_mem]
  unfold whichB
  rw [List.mem_map]
  constructor
  · rintro ⟨j, hj, e⟩
    obtain rfl : j = i := by omega
    exact (List.mem_filter.1 hj).2
  · intro e
    exact ⟨i, List.mem_filter.2 ⟨List.mem_range.2 h, e⟩, rfl⟩
theorem code_one (a : Fo) : 1 ≤ a.code.length := by cases a <;> simp [Fo.code]
theorem isF_code {a : Fo} (ha : a.ok) (hn : a.code.length ≤ 200) : isF a.code = true := by
  unfold isF
  rw [Bool.and_eq_true]
  refine ⟨?_, by rw [beq_iff_eq]; exact end_tree ha⟩
  have := code_one a
  unfold inB
  simp
  omega
theorem okS_code {l : Lab} (hg : goodLab l = true) {a : Fo} (ha : a.ok) (hn : a.code.length ≤ 200) : okS l a.code = true := by
  unfold okS
  rw [hg, isF_code ha hn]; rfl
theorem satS_has {l : Lab} (hg : goodLab l = true) {a : Fo} (ha : a.ok) (hn : a.code.length ≤ 200) {i : Nat} (hi : i < l.shows.length) : (satS l a.code).contains (i : Int) = a.sat l i := by
  unfold satS
  rw [if_pos (okS_code hg ha hn), which_mem hi, sat_tree l (fun s hs => by obtain ⟨_, j, _, h, _, h2⟩ := goodF_steps hg s hs; exact ⟨j, h, h2⟩) ha, rows_at hi]
theorem tell_bad {l : Lab} {s t : Int} (h : okST l s t = false) : tellOk l s t = false := by
  unfold tellOk
  rw [tellO_bad h]; rfl
theorem tell_law {l : Lab} {s t : Int} (h : tellOk l s t = true) : okS l (tellR l s t) = true ∧ ((lastL l).getD s.toNat 0 == (lastL l).getD t.toNat 0) = false ∧ (satS l (tellR l s t)).contains s = true ∧ (satS l (tellR l s t)).contains t = false := by
  cases ho : tellO l s t with
  | none => unfold tellOk at h; rw [ho] at h; cases h
  | some g =>
    have hr : tellR l s t = g := by unfold tellR; rw [ho]; rfl
    rw [hr]
    unfold tellO at ho
    split at ho
    · rename_i hc
      rw [Bool.and_eq_true] at hc
      obtain ⟨h1, h2⟩ := hc
      unfold okST at h1
      simp only [Bool.and_eq_true] at h1
      obtain ⟨⟨hg, hs⟩, ht⟩ := h1
      obtain ⟨i, rfl, hi⟩ := stB_true hs
      obtain ⟨j, rfl, hj⟩ := stB_true ht
      rw [Int.toNat_natCast, Int.toNat_natCast] at ho h2 ⊢
      obtain ⟨hn, a, rfl, ha, hsi, hsj⟩ := apart_tree l (goodL_of hg) 200 i j hi hj g ho
      refine ⟨okS_code hg ha hn, by simpa using h2, ?_, ?_⟩
      · rw [satS_has hg ha hn hi]; exact hsi
      · rw [satS_has hg ha hn hj]; exact hsj
    · cases ho

end Go.Proofs.YtdgnhfhaaghoaaaGreatDoor
