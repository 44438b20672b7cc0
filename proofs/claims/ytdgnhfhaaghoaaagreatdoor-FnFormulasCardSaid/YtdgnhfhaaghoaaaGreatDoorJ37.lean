/- The states that satisfy a formula, listed: program and reference walked. -/
import Derived.Test.YtdgnhfhaaghoaaaGreatDoorProg
import Derived.Test.YtdgnhfhaaghoaaaGreatDoorJ36
set_option linter.unusedSimpArgs false
set_option linter.unusedVariables false
namespace Go.Proofs.YtdgnhfhaaghoaaaGreatDoor
open Go.RowKit

theorem info_i : (Tryz.prog.info? 3).map (fun i => (i.zero, i.size, i.bytes)) = some (some (.int .i64 0), 1, 8) := by kernel_rfl

/-- The places of a row at which it is true, below k. -/
def whichB (bs : List Bool) (k : Nat) : List Int := ((List.range k).filter fun i => bs.getD i false).map fun (i : Nat) => (i : Int)
theorem which_len (bs : List Bool) (k : Nat) : (whichB bs k).length ≤ k := by
  unfold whichB
  rw [List.length_map]
  exact Nat.le_trans (List.length_filter_le _ _) (by simp)
theorem which_yes {bs : List Bool} {k : Nat} (h : bs[k]? = some true) : whichB bs (k + 1) = whichB bs k ++ [(k : Int)] := by
  unfold whichB
  rw [List.range_succ, List.filter_append, List.map_append]
  simp [List.getD, h]
theorem which_no {bs : List Bool} {k : Nat} (h : bs[k]? = some false) : whichB bs (k + 1) = whichB bs k := by
  unfold whichB
  rw [List.range_succ, List.filter_append, List.map_append]
  simp [List.getD, h]

theorem owns_apart {w : World} {B1 B2 : Nat} {e1 e2 : TypeId} {s1 s2 : Nat} {v1 v2 : Value} {n1 n2 : Nat} {xs1 xs2 : List Value} (h1 : w.ownsRow B1 e1 s1 v1 n1 xs1) (h2 : w.ownsRow B2 e2 s2 v2 n2 xs2) (he : e1 ≠ e2) (g : Nat) (hg : v1.ownBlock = some g) : v2.ownBlock ≠ some g := by
  intro hg2
  rcases h1.2 with ⟨rfl, _⟩ | ⟨g1, _, _, rfl, _, a1, _⟩
  · simp [Value.ownBlock] at hg
  · rcases h2.2 with ⟨rfl, _⟩ | ⟨g2, _, _, rfl, _, a2, _⟩
    · simp [Value.ownBlock] at hg2
    · simp only [Value.ownBlock, Option.some.injEq] at hg hg2
      subst hg
      subst hg2
      rw [a1] at a2
      injection a2 with a2
      injection a2 with _ a2
      exact he a2
theorem owns_fresh (w : World) (xs : List Value) (e : TypeId) (n : Nat) (hn : xs.length = n) (h0 : n ≤ 1000) :
    (w.alloc (.cells xs.toArray e)).ownsRow w.heap.size e 1 (.slice (some ⟨w.heap.size, 0, none⟩) n n) n xs := by
  subst hn
  exact ⟨by omega, .inr ⟨w.heap.size, xs.length, xs.toArray, rfl, Nat.le_refl _, heap_alloc_new _ _, Nat.le_refl _, by unfold maxLen; omega, by simp, by simp⟩⟩
theorem owns_grown {w w' : World} {B : Nat} {e : TypeId} {s : Nat} {v : Value} {n : Nat} {xs : List Value} {row : Option Nat} (h : w.ownsRow B e s v n xs) (hg : w.grownBy w' row) (hne : ∀ g, v.ownBlock = some g → row ≠ some g) : w'.ownsRow B e s v n xs := by
  refine ⟨h.1, ?_⟩
  rcases h.2 with hn | ⟨g, cap, cur, rfl, hbg, hgg, rest⟩
  · exact .inl hn
  · have hlt := (Array.getElem?_eq_some_iff.1 hgg).1
    exact .inr ⟨g, cap, cur, rfl, hbg, by rw [hg.block g hlt (hne g rfl).symm]; exact hgg, rest⟩

def okS (l : Lab) (f : List Int) : Bool := goodLab l && isF f
def satS (l : Lab) (f : List Int) : List Int := if okS l f then whichB (satB l f f.length 0) l.shows.length else []

theorem isF_parts {f : List Int} (h : isF f = true) : 1 ≤ f.length ∧ f.length ≤ 200 ∧ fEnd f.length f (0 : Nat) = f.length := by
  unfold isF at h
  simp only [Bool.and_eq_true, beq_iff_eq] at h
  have := inB_true h.1
  exact ⟨by omega, by omega, h.2⟩
theorem good_len {l : Lab} (h : goodLab l = true) : 1 ≤ l.shows.length ∧ l.shows.length ≤ 40 := by
  unfold goodLab at h
  simp only [Bool.and_eq_true] at h
  have := inB_true h.1
  exact ⟨by omega, by omega⟩

set_option maxRecDepth 100000 in
set_option maxHeartbeats 2000000 in
theorem implSatisfying_any (v : Value) (l : Lab) (A : Option Addr) (c : Nat) (f : List Int) (w : World) (hs : SmallLab l) (hv : RLab w v l) (hf : f.length ≤ 1048576) (hA : Cells w A (ints f)) :
    Calls Tryz.prog 15 #[v, .slice A f.length c] w fun e w' => ∃ u, e = .returned (.tuple #[u, .bool (okS l f)]) ∧ w'.ownsRow w.heap.size 3 1 u (satS l f).length (ints (satS l f)) ∧ Below w.heap.size w w' := by
  obtain ⟨i0, hi, hz0, hz1, hz2'⟩ := info_parts info_i
  have hb1 : ∀ o, Below w.heap.size w (w.alloc o) := fun o => (Below.refl _ _).alloc (Nat.le_refl _) o
  have H1 := Lib.hid (fun o => implIsLabelled_any v l (w.alloc o) hs (hv.below (hb1 o)))
  have HV := Lib.hid (show ∀ W, Below w.heap.size w W → RLab W v l from fun W hb => hv.below hb)
  have HA := Lib.hid (show ∀ W, Below w.heap.size w W → Cells W A (ints f) from fun W hb => hA.below hb)
  obtain ⟨sv, tv, rfl, _, _⟩ := hv
  have HB1 := Lib.hid hb1
  clear hb1 hA
  cases hg : goodLab l
  · have E1 := Lib.hid (show okS l f = false by simp [okS, hg])
    have E2 := Lib.hid (show satS l f = [] by simp [satS, okS, hg])
    rw [hg] at H1
    go_enter Tryz.func15, Tryz.ntmps15
    go_wp2_with fail
    refine (H1.out _).mono ?_
    rintro e w1 ⟨rfl, hw1⟩
    go_wp2_with fail
    go_ret2
    rw [E1.out, E2.out]
    exact ⟨_, rfl, World.ownsRow_nil _ _ _ _, (HB1.out _).trans (hw1.mono (HB1.out _).size)⟩
  · rw [hg] at H1
    cases hF : isF f
    · have E1 := Lib.hid (show okS l f = false by simp [okS, hF])
      have E2 := Lib.hid (show satS l f = [] by simp [satS, okS, hF])
      have H2 := Lib.hid (fun W hb => implIsFormula_any A c f W hf (HA.out W hb))
      rw [hF] at H2
      go_enter Tryz.func15, Tryz.ntmps15
      go_wp2_with fail
      refine (H1.out _).mono ?_
      rintro e w1 ⟨rfl, hw1⟩
      have hz := (HB1.out _).trans (hw1.mono (HB1.out _).size)
      clear hw1
      go_wp2_with fail
      refine (H2.out w1 hz).mono ?_
      rintro e w1' ⟨rfl, rfl⟩
      go_wp2_with fail
      go_ret2
      rw [E1.out, E2.out]
      exact ⟨_, rfl, World.ownsRow_nil _ _ _ _, hz⟩
    · have E1 := Lib.hid (show okS l f = true by simp [okS, hg, hF])
      have E2 := Lib.hid (show satS l f = whichB (satB l f f.length 0) l.shows.length by simp [satS, okS, hg, hF])
      have H2 := Lib.hid (fun W hb => implIsFormula_any A c f W hf (HA.out W hb))
      rw [hF] at H2
      obtain ⟨f1, f2, f3⟩ := isF_parts hF
      obtain ⟨l1, l2⟩ := good_len hg
      have H3 := Lib.hid (fun W hb => sat_any (.agg #[sv, tv]) l A c f hs (good_steps hg) f2 f.length 0 W (HV.out W hb) (HA.out W hb) (by omega) (by rw [f3]; omega))
      have hlen := satB_len l f f.length (0 : Nat) (by rw [f3]; omega)
      rw [show ((0 : Nat) : Int) = 0 from rfl] at H3 hlen
      generalize satB l f f.length 0 = bs at *
      clear f3 hF hg
      go_enter Tryz.func15, Tryz.ntmps15
      go_wp2_with fail
      refine (H1.out _).mono ?_
      rintro e w1 ⟨rfl, hw1⟩
      obtain ⟨bx, hlt1⟩ := one_box hw1
      have x0 : w1.cell? ⟨w.heap.size, 0, none⟩ = some sv := cell_of_row _ _ _ _ _ _ bx
      have x1 : w1.cell? ⟨w.heap.size, 1, none⟩ = some tv := cell_of_row _ _ _ _ _ _ bx
      have hz := (HB1.out _).trans (hw1.mono (HB1.out _).size)
      clear hw1 bx
      go_wp2_with fail
      refine (H2.out w1 hz).mono ?_
      rintro e w1' ⟨rfl, rfl⟩
      go_wp2_with fail
      have hz2 : Below w.heap.size w (w1.alloc (.cells #[] 3)) := hz.alloc hz.size _
      have ho1 : (w1.alloc (.cells #[] 3)).ownsRow w.heap.size 3 1 (.slice (some ⟨w1.heap.size, 0, none⟩) 0 0) 0 (ints []) := owns_mono (owns_fresh w1 [] _ 0 rfl (by decide)) hz.size
      refine (H3.out _ hz2).mono ?_
      rintro e w3 ⟨v3, rfl, ho3, hw3⟩
      obtain ⟨A3, c3, rfl, ho3⟩ := owns_form ho3
      have ho13 := owns_below ho1 hw3 (Nat.le_refl _)
      have hz3 := hz2.trans (hw3.mono hz2.size)
      have ho33 := owns_mono ho3 hz2.size
      clear ho1 ho3 hw3 hz hz2 x0 x1
      go_wp2_with fail
      go_loopw [6, 22] (fun u i wr => ∃ k : Nat, k ≤ l.shows.length ∧ i = .int .i64 k ∧ wr.ownsRow w.heap.size 3 1 u (whichB bs k).length (ints (whichB bs k)) ∧ wr.ownsRow w.heap.size 4 1 (.slice A3 l.shows.length c3) l.shows.length (bools bs) ∧ Below w.heap.size w wr)
        (fun _ i _ => l.shows.length - (intOf i).toNat)
      case atStart => exact ⟨0, Nat.zero_le _, rfl, ho13, ho33, hz3⟩
      case round =>
        clear ho13 ho33 hz3
        obtain ⟨k, hk, rfl, hown, hrow, hbel⟩ := hrel
        obtain ⟨AO, cO, rfl, hown⟩ := owns_form hown
        by_cases hlt : k < l.shows.length
        · have hkb : k < bs.length := by omega
          obtain ⟨b, o, rfl, hcb⟩ := (Cells.of_owns hrow).at_ (k := k) (by simp; omega)
          have hck := hcb k (.bool bs[k]) (by simp [hkb])
          have hbk : bs[k]? = some bs[k] := List.getElem?_eq_getElem hkb
          have HO := Lib.hid hown
          have HR := Lib.hid hrow
          have HB := Lib.hid hbel
          have hsz := hbel.size
          have hwl := which_len bs k
          have b0 : (0 : Int) ≤ (k : Int) := by omega
          have b1 : (k : Int) < (l.shows.length : Int) := by omega
          generalize bs[k] = x at *
          clear hown hrow hbel hcb
          cases x
          · have hn := which_no hbk
            have HN := Lib.hid hn
            clear hn hbk
            go_wp2_with fail
            go_roundw
            case rel => exact ⟨k + 1, by omega, by go_num, by rw [HN.out]; exact HO.out, HR.out, HB.out⟩
            case measure => simp [intOf]; omega
          · have hn := which_yes hbk
            have HN := Lib.hid hn
            clear hn hbk
            go_wp2_with (at_builtin; refine wpList_append_own _ rfl _ _ 30 rfl w.heap.size 3 i0 (.int .i64 0) 1 8 Tryz.underlying30 hi hz0 hz1 hz2' rfl (by decide) _ _ _ rfl (HO.out.alloc _) ⟨wr.heap.size, 0, none⟩ 1 1 [.int .i64 k] rfl rfl ?c1 ?c2 ?c3 ?c4 ?c5 ?_)
            case c1 => intro j u hj; match j, hj with | 0, hj => (simp at hj; subst hj; simp [Addr.add])
            case c2 => intro u hu; simp at hu; subst hu; rfl
            case c3 => unfold maxLen; omega
            case c4 => omega
            case c5 => simp; omega
            intro v2 w2 hown2 hgrow2 _
            have e1 : (whichB bs k).length + 1 = (whichB bs (k + 1)).length := by rw [HN.out]; simp
            have e2 : ints (whichB bs k) ++ [.int .i64 k] = ints (whichB bs (k + 1)) := by rw [HN.out]; simp
            rw [e1, e2] at hown2
            have HO2 := Lib.hid hown2
            have HG2 := Lib.hid ((HB.out.alloc hsz _).grown hgrow2 (by simp; omega) (fun k hk => (HO.out.lt k hk).1))
            have HR2 := Lib.hid (owns_grown (HR.out.alloc _) hgrow2 (fun g hg => owns_apart HR.out HO.out (by decide) g hg))
            clear hown2 hgrow2 e1 e2
            go_wp2
            go_roundw
            case rel => exact ⟨k + 1, by omega, by go_num, HO2.out, HR2.out, HG2.out⟩
            case measure => simp [intOf]; omega
        · obtain rfl : k = l.shows.length := by omega
          have HO := Lib.hid hown
          clear hown
          go_wp2_with fail
          go_ret2
          rw [E1.out, E2.out]
          exact ⟨_, rfl, HO.out, hbel⟩

set_option maxRecDepth 100000 in
set_option maxHeartbeats 2000000 in
theorem specSatisfying_any (v : Value) (l : Lab) (A : Option Addr) (c : Nat) (f : List Int) (w : World) (hs : SmallLab l) (hv : RLab w v l) (hf : f.length ≤ 1048576) (hA : Cells w A (ints f)) :
    Calls Tryz.prog 34 #[v, .slice A f.length c] w fun e w' => ∃ u, e = .returned (.tuple #[u, .bool (okS l f)]) ∧ w'.ownsRow w.heap.size 3 1 u (satS l f).length (ints (satS l f)) ∧ Below w.heap.size w w' := by
  obtain ⟨i0, hi, hz0, hz1, hz2'⟩ := info_parts info_i
  have hb1 : ∀ o, Below w.heap.size w ((w.alloc o).alloc (.cells #[] 3)) := fun o => ((Below.refl _ _).alloc (Nat.le_refl _) o).alloc (by simp) _
  have H1 := Lib.hid (fun o => l11Good_any v l ((w.alloc o).alloc (.cells #[] 3)) hs (hv.below (hb1 o)))
  have HV := Lib.hid (show ∀ W, Below w.heap.size w W → RLab W v l from fun W hb => hv.below hb)
  have HA := Lib.hid (show ∀ W, Below w.heap.size w W → Cells W A (ints f) from fun W hb => hA.below hb)
  have HOUT := Lib.hid (show ∀ o, ((w.alloc o).alloc (.cells #[] 3)).ownsRow w.heap.size 3 1 (.slice (some ⟨w.heap.size + 1, 0, none⟩) 0 0) 0 (ints []) from fun o => by
    have := owns_fresh (w.alloc o) [] 3 0 rfl (by decide)
    rw [World.size_alloc] at this
    exact owns_mono this (by omega))
  obtain ⟨sv, tv, rfl, _, _⟩ := hv
  have HB1 := Lib.hid hb1
  clear hb1 hA
  cases hg : goodLab l
  · have E1 := Lib.hid (show okS l f = false by simp [okS, hg])
    have E2 := Lib.hid (show satS l f = [] by simp [satS, okS, hg])
    rw [hg] at H1
    go_enter Tryz.func34, Tryz.ntmps34
    go_wp2_with fail
    refine (H1.out _).mono ?_
    rintro e w1 ⟨rfl, hw1⟩
    have hz := (HB1.out _).trans (hw1.mono (HB1.out _).size)
    have ho := owns_below (HOUT.out _) hw1 (Nat.le_refl _)
    clear hw1
    go_wp2_with fail
    go_ret2
    rw [E1.out, E2.out]
    exact ⟨_, rfl, ho, hz⟩
  · rw [hg] at H1
    have H2 := Lib.hid (fun W hb => l11Formula_any A c f W hf (HA.out W hb))
    cases hF : isF f
    · have E1 := Lib.hid (show okS l f = false by simp [okS, hF])
      have E2 := Lib.hid (show satS l f = [] by simp [satS, okS, hF])
      rw [hF] at H2
      go_enter Tryz.func34, Tryz.ntmps34
      go_wp2_with fail
      refine (H1.out _).mono ?_
      rintro e w1 ⟨rfl, hw1⟩
      have hz := (HB1.out _).trans (hw1.mono (HB1.out _).size)
      have ho := owns_below (HOUT.out _) hw1 (Nat.le_refl _)
      clear hw1
      go_wp2_with fail
      refine (H2.out w1 hz).mono ?_
      rintro e w1' ⟨rfl, rfl⟩
      go_wp2_with fail
      go_ret2
      rw [E1.out, E2.out]
      exact ⟨_, rfl, ho, hz⟩
    · have E1 := Lib.hid (show okS l f = true by simp [okS, hg, hF])
      have E2 := Lib.hid (show satS l f = whichB (satB l f f.length 0) l.shows.length by simp [satS, okS, hg, hF])
      rw [hF] at H2
      obtain ⟨f1, f2, f3⟩ := isF_parts hF
      obtain ⟨l1, l2⟩ := good_len hg
      have H3 := Lib.hid (fun W hb => true_any (.agg #[sv, tv]) l A c f hs (good_steps hg) f2 f.length 0 W (HV.out W hb) (HA.out W hb) (by rw [f3]; omega))
      have hlen := satB_len l f f.length (0 : Nat) (by rw [f3]; omega)
      rw [show ((0 : Nat) : Int) = 0 from rfl] at H3 hlen
      generalize satB l f f.length 0 = bs at *
      clear f3 hF hg
      go_enter Tryz.func34, Tryz.ntmps34
      go_wp2_with fail
      refine (H1.out _).mono ?_
      rintro e w1 ⟨rfl, hw1⟩
      have hz := (HB1.out _).trans (hw1.mono (HB1.out _).size)
      have ho1 := owns_below (HOUT.out _) hw1 (Nat.le_refl _)
      have hbx := (hw1.block w.heap.size (by simp; omega)).trans ((heap_alloc_old _ _ (by simp)).trans (heap_alloc_new _ _))
      have x0 : w1.cell? ⟨w.heap.size, 0, none⟩ = some sv := cell_of_row _ _ _ _ _ _ hbx
      have x1 : w1.cell? ⟨w.heap.size, 1, none⟩ = some tv := cell_of_row _ _ _ _ _ _ hbx
      clear hw1 hbx
      go_wp2_with fail
      refine (H2.out w1 hz).mono ?_
      rintro e w1' ⟨rfl, rfl⟩
      go_wp2_with fail
      refine (H3.out _ hz).mono ?_
      rintro e w3 ⟨v3, rfl, ho3, hw3⟩
      obtain ⟨A3, c3, rfl, ho3⟩ := owns_form ho3
      have ho13 := owns_below ho1 hw3 (Nat.le_refl _)
      have hz3 := hz.trans (hw3.mono hz.size)
      have ho33 := owns_mono ho3 hz.size
      clear ho1 ho3 hw3 hz x0 x1
      go_wp2_with fail
      go_loopw [6, 9] (fun u i wr => ∃ k : Nat, k ≤ l.shows.length ∧ i = .int .i64 k ∧ wr.ownsRow w.heap.size 3 1 u (whichB bs k).length (ints (whichB bs k)) ∧ wr.ownsRow w.heap.size 4 1 (.slice A3 l.shows.length c3) l.shows.length (bools bs) ∧ Below w.heap.size w wr)
        (fun _ i _ => l.shows.length - (intOf i).toNat)
      case atStart => exact ⟨0, Nat.zero_le _, rfl, ho13, ho33, hz3⟩
      case round =>
        clear ho13 ho33 hz3
        obtain ⟨k, hk, rfl, hown, hrow, hbel⟩ := hrel
        obtain ⟨AO, cO, rfl, hown⟩ := owns_form hown
        by_cases hlt : k < l.shows.length
        · have hkb : k < bs.length := by omega
          obtain ⟨b, o, rfl, hcb⟩ := (Cells.of_owns hrow).at_ (k := k) (by simp; omega)
          have hck := hcb k (.bool bs[k]) (by simp [hkb])
          have hbk : bs[k]? = some bs[k] := List.getElem?_eq_getElem hkb
          have HO := Lib.hid hown
          have HR := Lib.hid hrow
          have HB := Lib.hid hbel
          have hsz := hbel.size
          have hwl := which_len bs k
          have b0 : (0 : Int) ≤ (k : Int) := by omega
          have b1 : (k : Int) < (l.shows.length : Int) := by omega
          generalize bs[k] = x at *
          clear hown hrow hbel hcb
          cases x
          · have hn := which_no hbk
            have HN := Lib.hid hn
            clear hn hbk
            go_wp2_with fail
            go_roundw
            case rel => exact ⟨k + 1, by omega, by go_num, by rw [HN.out]; exact HO.out, HR.out, HB.out⟩
            case measure => simp [intOf]; omega
          · have hn := which_yes hbk
            have HN := Lib.hid hn
            clear hn hbk
            go_wp2_with (at_builtin; refine wpList_append_own _ rfl _ _ 30 rfl w.heap.size 3 i0 (.int .i64 0) 1 8 Tryz.underlying30 hi hz0 hz1 hz2' rfl (by decide) _ _ _ rfl (HO.out.alloc _) ⟨wr.heap.size, 0, none⟩ 1 1 [.int .i64 k] rfl rfl ?c1 ?c2 ?c3 ?c4 ?c5 ?_)
            case c1 => intro j u hj; match j, hj with | 0, hj => (simp at hj; subst hj; simp [Addr.add])
            case c2 => intro u hu; simp at hu; subst hu; rfl
            case c3 => unfold maxLen; omega
            case c4 => omega
            case c5 => simp; omega
            intro v2 w2 hown2 hgrow2 _
            have e1 : (whichB bs k).length + 1 = (whichB bs (k + 1)).length := by rw [HN.out]; simp
            have e2 : ints (whichB bs k) ++ [.int .i64 k] = ints (whichB bs (k + 1)) := by rw [HN.out]; simp
            rw [e1, e2] at hown2
            have HO2 := Lib.hid hown2
            have HG2 := Lib.hid ((HB.out.alloc hsz _).grown hgrow2 (by simp; omega) (fun k hk => (HO.out.lt k hk).1))
            have HR2 := Lib.hid (owns_grown (HR.out.alloc _) hgrow2 (fun g hg => owns_apart HR.out HO.out (by decide) g hg))
            clear hown2 hgrow2 e1 e2
            go_wp2
            go_roundw
            case rel => exact ⟨k + 1, by omega, by go_num, HO2.out, HR2.out, HG2.out⟩
            case measure => simp [intOf]; omega
        · obtain rfl : k = l.shows.length := by omega
          have HO := Lib.hid hown
          clear hown
          go_wp2_with fail
          go_ret2
          rw [E1.out, E2.out]
          exact ⟨_, rfl, HO.out, hbel⟩

end Go.Proofs.YtdgnhfhaaghoaaaGreatDoor
