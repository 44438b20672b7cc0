/- The teller in memory; its small functions walked: checked, ends, marks; functions looked for in a slice of numbers. -/
import Derived.Test.YtdgnhfhaaghoaaaGreatDoorProg
import Derived.Test.YtdgnhfhaaghoaaaGreatDoorJ19
import Derived.Test.YtdgnhfhaaghoaaaGreatDoorJ20
set_option linter.unusedSimpArgs false
set_option linter.unusedVariables false
namespace Go.Proofs.YtdgnhfhaaghoaaaGreatDoor
open Go.RowKit

theorem teller_cells {w : World} {p : Nat} {a b c d : Value} {t : TypeId} (h : w.heap[p]? = some (.cells #[a, b, c, d] t)) : (w.cell? ⟨p, 0, none⟩ = some a ∧ w.cell? ⟨p, 1, none⟩ = some b ∧ w.cell? ⟨p, 2, none⟩ = some c ∧ w.cell? ⟨p, 3, none⟩ = some d) ∧ w.frozen? ⟨p, 3, none⟩ = false :=
  ⟨⟨cell_of_row _ _ _ _ _ _ h, cell_of_row _ _ _ _ _ _ h, cell_of_row _ _ _ _ _ _ h, cell_of_row _ _ _ _ _ _ h⟩, frozen_of_row _ _ _ _ _ h⟩

/-- A teller in block p, over a world w0 that has not turned. -/
structure Tlr (w0 : World) (p : Nat) (sv tv rv : Value) (bad : Bool) (w : World) : Prop where
  b : Below w0.heap.size w0 w
  c : w.heap[p]? = some (.cells #[sv, tv, rv, .bool bad] 72)

section
variable {w0 w w' : World} {p : Nat} {sv tv rv : Value} {bad : Bool}
theorem Tlr.lt (h : Tlr w0 p sv tv rv bad w) : p < w.heap.size := (Array.getElem?_eq_some_iff.1 h.c).1
theorem Tlr.below (h : Tlr w0 p sv tv rv bad w) (hb : Below w.heap.size w w') : Tlr w0 p sv tv rv bad w' := ⟨h.b.trans (hb.mono h.b.size), (hb.block _ h.lt).trans h.c⟩
theorem Tlr.set (h : Tlr w0 p sv tv rv bad w) (hp : w0.heap.size ≤ p) (b : Bool) : Tlr w0 p sv tv rv b (w.setCell ⟨p, 3, none⟩ (.bool b)) :=
  ⟨h.b.setCell hp _, heap_setCell_same w p 3 _ _ (.bool b) h.c⟩
theorem Tlr.kept (h : Tlr w0 p sv tv rv bad w) (hp : w0.heap.size ≤ p) (b : Bool) : Kept (fun q => q = p) w (w.setCell ⟨p, 3, none⟩ (.bool b)) := (Kept.refl _ w).setCell (S := fun q => q = p) (p := ⟨p, 3, none⟩) rfl _
theorem owns_keptP {B : Nat} {e : TypeId} {s : Nat} {v : Value} {n : Nat} {xs : List Value} (h : w.ownsRow B e s v n xs) (hp : p < B) (hk : Kept (fun q => q = p) w w') : w'.ownsRow B e s v n xs := owns_kept h hk (fun g hg e => by have := (h.lt g hg).1; omega)
end

set_option maxHeartbeats 1000000 in
theorem checked_bad (w0 : World) (p : Nat) (sv tv rv : Value) (A : Option Addr) (n c : Nat) (w : World) (hT : Tlr w0 p sv tv rv true w) :
    Calls Tryz.prog 131 #[.pointer (some ⟨p, 0, none⟩), .slice A n c] w fun e w' => e = .returned (.slice none 0 0) ∧ w' = w.setCell ⟨p, 3, none⟩ (.bool true) := by
  obtain ⟨⟨c0, c1, c2, c3⟩, f3⟩ := teller_cells hT.c
  obtain ⟨⟨_, _, _, d3⟩, _⟩ := teller_cells (heap_setCell_same w p 3 _ _ (.bool true) hT.c)
  clear hT
  go_enter Tryz.func131, Tryz.ntmps131
  go_wp2_with fail
  go_ret
  exact ⟨rfl, rfl⟩
set_option maxHeartbeats 1000000 in
theorem checked_long (w0 : World) (p : Nat) (sv tv rv : Value) (A : Option Addr) (n c : Nat) (w : World) (hn : 200 < n) (hn2 : n ≤ 1000000000000) (hT : Tlr w0 p sv tv rv false w) :
    Calls Tryz.prog 131 #[.pointer (some ⟨p, 0, none⟩), .slice A n c] w fun e w' => e = .returned (.slice none 0 0) ∧ w' = w.setCell ⟨p, 3, none⟩ (.bool true) := by
  obtain ⟨⟨c0, c1, c2, c3⟩, f3⟩ := teller_cells hT.c
  obtain ⟨⟨_, _, _, d3⟩, _⟩ := teller_cells (heap_setCell_same w p 3 _ _ (.bool true) hT.c)
  have e1 : decide ((200 : Int) < (n : Int)) = true := by simp; omega
  clear hT
  go_enter Tryz.func131, Tryz.ntmps131
  go_wp2_with fail
  go_ret
  exact ⟨rfl, rfl⟩
set_option maxHeartbeats 1000000 in
theorem checked_ok (w0 : World) (p : Nat) (sv tv rv : Value) (A : Option Addr) (n c : Nat) (w : World) (hn : n ≤ 200) (hT : Tlr w0 p sv tv rv false w) :
    Calls Tryz.prog 131 #[.pointer (some ⟨p, 0, none⟩), .slice A n c] w fun e w' => e = .returned (.slice A n c) ∧ w' = w.setCell ⟨p, 3, none⟩ (.bool false) := by
  obtain ⟨⟨c0, c1, c2, c3⟩, f3⟩ := teller_cells hT.c
  obtain ⟨⟨_, _, _, d3⟩, _⟩ := teller_cells (heap_setCell_same w p 3 _ _ (.bool false) hT.c)
  have e1 : decide ((200 : Int) < (n : Int)) = false := by simp; omega
  clear hT
  go_enter Tryz.func131, Tryz.ntmps131
  go_wp2_with fail
  go_ret
  exact ⟨rfl, rfl⟩

set_option maxRecDepth 100000 in
set_option maxHeartbeats 4000000 in
theorem ends_any (w0 : World) (p : Nat) (sv rv : Value) (D : Option Addr) (d : Nat) (bad : Bool) (ss : List I3) (s a : Int) (w : World) (hn : ss.length ≤ 100000) (hss : RA3 w0 (.slice D ss.length d) ss) (hT : Tlr w0 p sv (.slice D ss.length d) rv bad w) :
    Calls Tryz.prog 128 #[.pointer (some ⟨p, 0, none⟩), .int .i64 s, .int .i64 a] w fun e w' => ∃ r, e = .returned r ∧ w'.ownsRow w.heap.size 3 1 r (nextA ss s a).length (ints (nextA ss s a)) ∧ Below w.heap.size w w' := by
  obtain ⟨i0, hi, hz0, hz1, hz2⟩ := info_parts info_ci
  have HV := Lib.hid (show ∀ W, Below w.heap.size w W → RA3 W (.slice D ss.length d) ss from fun W hb => (hss.below hT.b).below hb)
  have HC := Lib.hid (show ∀ W, Below w.heap.size w W → W.cell? ⟨p, 1, none⟩ = some (.slice D ss.length d) from fun W hb => (teller_cells ((hb.block _ hT.lt).trans hT.c)).1.2.1)
  have c1 := HC.out w (Below.refl _ _)
  have HOWN := Lib.hid (show (w.alloc (.cells #[] 3)).ownsRow w.heap.size 3 1 (.slice (some ⟨w.heap.size, 0, none⟩) 0 0) (nextA (ss.take 0) s a).length (ints (nextA (ss.take 0) s a)) from made_row w 3)
  have HB0 := Lib.hid ((Below.refl w.heap.size w).alloc (Nat.le_refl _) (.cells #[] 3))
  have c1' := HC.out _ HB0.out
  clear hss hT
  go_enter Tryz.func128, Tryz.ntmps128
  go_wp2_with fail
  go_loopw [7, 17] (fun u i wr => ∃ k : Nat, k ≤ ss.length ∧ i = .int .i64 k ∧ wr.ownsRow w.heap.size 3 1 u (nextA (ss.take k) s a).length (ints (nextA (ss.take k) s a)) ∧ Below w.heap.size w wr)
    (fun _ i _ => ss.length - (intOf i).toNat)
  case atStart => exact ⟨0, Nat.zero_le _, rfl, HOWN.out, HB0.out⟩
  case round =>
    clear HOWN HB0 c1 c1'
    obtain ⟨k, hk, rfl, hown, hbel⟩ := hrel
    obtain ⟨AO, cO, rfl, hown⟩ := owns_form hown
    have hsz := hbel.size
    by_cases hlt : k < ss.length
    · obtain ⟨b, o, c', e, h0, h1, h2⟩ := (HV.out wr hbel).at_ (List.getElem?_eq_getElem hlt)
      cases e
      have hnx := nextA_take s a hlt
      have hln := nextA_len ss s a k
      have HO := Lib.hid hown
      have HBE := Lib.hid hbel
      have hA : Below wr.heap.size wr (wr.alloc (.cells #[.int .i64 ss[k].1, .int .i64 ss[k].2.1, .int .i64 ss[k].2.2] 103)) := (Below.refl _ _).alloc (Nat.le_refl _) _
      have hbA := hbel.trans (hA.mono hbel.size)
      have HOA := Lib.hid (hown.alloc (.cells #[.int .i64 ss[k].1, .int .i64 ss[k].2.1, .int .i64 ss[k].2.2] 103))
      have HBA := Lib.hid hbA
      have g0 : (wr.alloc (.cells #[.int .i64 ss[k].1, .int .i64 ss[k].2.1, .int .i64 ss[k].2.2] 103)).cell? ⟨wr.heap.size, 0, none⟩ = some (.int .i64 ss[k].1) := cell_of_row _ _ _ _ _ _ (heap_alloc_new _ _)
      have g1 : (wr.alloc (.cells #[.int .i64 ss[k].1, .int .i64 ss[k].2.1, .int .i64 ss[k].2.2] 103)).cell? ⟨wr.heap.size, 1, none⟩ = some (.int .i64 ss[k].2.1) := cell_of_row _ _ _ _ _ _ (heap_alloc_new _ _)
      have g2 : (wr.alloc (.cells #[.int .i64 ss[k].1, .int .i64 ss[k].2.1, .int .i64 ss[k].2.2] 103)).cell? ⟨wr.heap.size, 2, none⟩ = some (.int .i64 ss[k].2.2) := cell_of_row _ _ _ _ _ _ (heap_alloc_new _ _)
      have b0 : (0 : Int) ≤ (k : Int) := by omega
      have b1 : (k : Int) < (ss.length : Int) := by omega
      have hszA := hbA.size
      clear hown hbel hA hbA
      generalize ss[k] = x at *
      generalize nextA (ss.take k) s a = lk at *
      cases hp : ((x.1 == s) && (x.2.1 == a))
      · rw [hp, if_neg Bool.false_ne_true] at hnx
        have HN := Lib.hid hnx
        clear hnx
        cases hp1 : (x.1 == s)
        · clear hp
          go_wp2_with fail
          go_roundw
          case rel => exact ⟨k + 1, by omega, by go_num, by rw [HN.out]; exact HOA.out, HBA.out⟩
          case measure => simp [intOf]; omega
        · rw [hp1, Bool.true_and] at hp
          go_wp2_with fail
          go_roundw
          case rel => exact ⟨k + 1, by omega, by go_num, by rw [HN.out]; exact HOA.out, HBA.out⟩
          case measure => simp [intOf]; omega
      · rw [hp, if_pos rfl] at hnx
        have HN := Lib.hid hnx
        rw [Bool.and_eq_true] at hp
        obtain ⟨hp1, hp2⟩ := hp
        clear hnx
        go_wp2_with (at_builtin; refine wpList_append_own _ rfl _ _ 30 rfl w.heap.size 3 i0 (.int .i64 0) 1 8 Tryz.underlying30 hi hz0 hz1 hz2 rfl (by decide) _ _ _ rfl (HOA.out.alloc _) ⟨wr.heap.size + 1, 0, none⟩ 1 1 [.int .i64 x.2.2] rfl rfl ?c1 ?c2 ?c3 ?c4 ?c5 ?_)
        case c1 => intro j u hj; match j, hj with | 0, hj => (simp at hj; subst hj; simp [Addr.add])
        case c2 => intro u hu; simp at hu; subst hu; rfl
        case c3 => unfold maxLen; omega
        case c4 => omega
        case c5 => simp; omega
        intro v2 w2 hown2 hgrow2 _
        have HO2 := Lib.hid (show w2.ownsRow w.heap.size 3 1 v2 (nextA (ss.take (k + 1)) s a).length (ints (nextA (ss.take (k + 1)) s a)) from by
          have hints : ints (nextA (ss.take (k + 1)) s a) = ints lk ++ [.int .i64 x.2.2] := by rw [HN.out]; simp [ints]
          have hlen : (nextA (ss.take (k + 1)) s a).length = lk.length + 1 := by rw [HN.out]; simp
          rw [hints, hlen]
          exact hown2)
        have HG2 := Lib.hid ((HBA.out.alloc hszA _).grown hgrow2 (by simp; omega) (fun q hq => (HO.out.lt q hq).1))
        clear hown2 hgrow2
        go_wp2_with fail
        go_roundw
        case rel => exact ⟨k + 1, by omega, by go_num, HO2.out, HG2.out⟩
        case measure => simp [intOf]; omega
    · obtain rfl : k = ss.length := by omega
      rw [List.take_length] at hown ⊢
      have HO := Lib.hid hown
      have HBE := Lib.hid hbel
      clear hown hbel
      go_wp2_with fail
      go_ret
      exact ⟨_, rfl, HO.out, HBE.out⟩

set_option maxRecDepth 100000 in
set_option maxHeartbeats 4000000 in
theorem marks_any (w0 : World) (p : Nat) (A1 : Option Addr) (c1 : Nat) (tv rv : Value) (bad : Bool) (l : Lab) (s t m : Nat) (w : World) (hsv : RSS w0 (.slice A1 l.shows.length c1) l.shows) (hn : l.shows.length ≤ 40) (hs : s < l.shows.length) (ht : t < l.shows.length) (hl : ∀ xs ∈ l.shows, xs.length ≤ 1000)
    (hd : diffM (l.shows.getD s []) (l.shows.getD t []) = some m) (hT : Tlr w0 p (.slice A1 l.shows.length c1) tv rv bad w) :
    Calls Tryz.prog 127 #[.pointer (some ⟨p, 0, none⟩), .int .i64 s, .int .i64 t] w fun e w' => ∃ r, e = .returned r ∧ w'.ownsRow w.heap.size 3 1 r (markF (l.shows.getD s []) (l.shows.getD t [])).length (ints (markF (l.shows.getD s []) (l.shows.getD t []))) ∧ Below w.heap.size w w' := by
  obtain ⟨X, hX⟩ : ∃ X : Nat → List Int, X = fun j => l.shows.getD j default := ⟨_, rfl⟩
  have hXE : ∀ j, X j = l.shows.getD j default := fun j => by rw [hX]
  obtain ⟨sb, so, rfl, hrow⟩ := rss_rows (X := X) hsv hXE (by omega)
  obtain ⟨As, as_, hRs⟩ := hrow s hs
  obtain ⟨At, at_, hRt⟩ := hrow t ht
  have hls : (X s).length ≤ 1000 := by rw [hXE]; exact hl _ (by simp [List.getD, hs])
  have hlt : (X t).length ≤ 1000 := by rw [hXE]; exact hl _ (by simp [List.getD, ht])
  have es : l.shows.getD s [] = X s := (hXE s).symm
  have et : l.shows.getD t [] = X t := (hXE t).symm
  rw [es, et] at hd ⊢
  obtain ⟨hm8, hm, hmj⟩ := diff_at hd
  have hmk : markF (X s) (X t) = if hasM (X s) m then [1, (m : Int)] else [2, 1, (m : Int)] := by unfold markF; rw [hd]
  have HMK := Lib.hid hmk
  have HM := Lib.hid hm
  have HMJ := Lib.hid hmj
  have HC := Lib.hid (show ∀ W, Below w.heap.size w W → W.cell? ⟨p, 0, none⟩ = some (.slice (some ⟨sb, so, none⟩) l.shows.length c1) from fun W hb => (teller_cells ((hb.block _ hT.lt).trans hT.c)).1.1)
  have HRS := Lib.hid (show ∀ W, Below w.heap.size w W → W.cell? ⟨sb, so + s, none⟩ = some (.slice As (X s).length as_) ∧ Cells W As (ints (X s)) from fun W hb => hRs W (hT.b.trans (hb.mono hT.b.size)))
  have HRT := Lib.hid (show ∀ W, Below w.heap.size w W → W.cell? ⟨sb, so + t, none⟩ = some (.slice At (X t).length at_) ∧ Cells W At (ints (X t)) from fun W hb => hRt W (hT.b.trans (hb.mono hT.b.size)))
  have q0 : (0 : Int) ≤ (s : Int) := by omega
  have q1 : (s : Int) < (l.shows.length : Int) := by omega
  have q2 : (0 : Int) ≤ (t : Int) := by omega
  have q3 : (t : Int) < (l.shows.length : Int) := by omega
  clear hsv hT hd hX hXE hrow hRs hRt es et hm hmj hmk hl
  generalize X s = xs at *
  generalize X t = xt at *
  go_enter Tryz.func127, Tryz.ntmps127
  go_wp2_with fail
  go_loopw [10] (fun i wr => ∃ k : Nat, k ≤ m ∧ i = .int .i64 k ∧ Below w.heap.size w wr) (fun i _ => m - (intOf i).toNat)
  case atStart => exact ⟨0, Nat.zero_le _, rfl, Below.refl _ _⟩
  case round =>
    obtain ⟨k, hk, rfl, hbel⟩ := hrel
    have c0 := HC.out wr hbel
    obtain ⟨cs, hCs⟩ := HRS.out wr hbel
    obtain ⟨ct, hCt⟩ := HRT.out wr hbel
    have HCS := Lib.hid (fun W (h : Cells W As (ints xs)) => contains_q As as_ xs (k : Int) W (by omega) h)
    have HCT := Lib.hid (fun W (h : Cells W At (ints xt)) => contains_q At at_ xt (k : Int) W (by omega) h)
    have HQS := Lib.hid hCs
    have HQT := Lib.hid hCt
    have HB := Lib.hid hbel
    have hsz := hbel.size
    clear hCs hCt hbel
    have e8 : decide ((k : Int) < 8) = true := by simp; omega
    cases h1 : hasI xs (k : Int) <;> cases h2 : hasI xt (k : Int)
    · have hne : k < m := by
        rcases Nat.lt_or_eq_of_le hk with h | h
        · exact h
        · subst h; have := HM.out; unfold hasM at this; unfold hasI at h1 h2; rw [h1, h2] at this; cases this
      rw [h1] at HCS
      rw [h2] at HCT
      clear h1 h2
      go_wp2_with fail
      go_quiet ((first | exact Calls.quiet_of_same (HCS.out _ HQS.out) | exact Calls.quiet_of_same (HCT.out _ HQT.out)))
      have HB2 := Lib.hid (below_drewN' HB.out nq)
      go_wp2_with fail
      go_roundw
      case rel => exact ⟨k + 1, by omega, by go_num, HB2.out⟩
      case measure => simp [intOf]; omega
    · have hkm : k = m := by
        refine Classical.byContradiction fun h => ?_
        have := HMJ.out k (by omega)
        unfold hasM at this
        unfold hasI at h1 h2
        rw [h1, h2] at this
        cases this
      subst hkm
      have hF : markF xs xt = [2, 1, (k : Int)] := by
        rw [HMK.out]
        unfold hasM
        unfold hasI at h1
        rw [h1]; rfl
      have HF := Lib.hid hF
      rw [h1] at HCS
      rw [h2] at HCT
      clear h1 h2 hF
      go_wp2_with fail
      go_quiet ((first | exact Calls.quiet_of_same (HCS.out _ HQS.out) | exact Calls.quiet_of_same (HCT.out _ HQT.out)))
      have HB2 := Lib.hid (below_drewN' HB.out nq)
      have HO := Lib.hid (ownsRow_lit (n := 3) (w := (wr.drewN nq).alloc (.cells #[.int .i64 2, .int .i64 1, .int .i64 k] 3)) (xs := [.int .i64 2, .int .i64 1, .int .i64 k]) (heap_alloc_new _ _) rfl (by unfold maxLen; omega))
      go_wp2_with fail
      go_ret
      exact ⟨_, rfl, by rw [HF.out]; exact owns_mono HO.out HB2.out.size, HB2.out.alloc HB2.out.size _⟩
    · have hkm : k = m := by
        refine Classical.byContradiction fun h => ?_
        have := HMJ.out k (by omega)
        unfold hasM at this
        unfold hasI at h1 h2
        rw [h1, h2] at this
        cases this
      subst hkm
      have hF : markF xs xt = [1, (k : Int)] := by
        rw [HMK.out]
        unfold hasM
        unfold hasI at h1
        rw [h1]; rfl
      have HF := Lib.hid hF
      rw [h1] at HCS
      rw [h2] at HCT
      clear h1 h2 hF
      go_wp2_with fail
      go_quiet ((first | exact Calls.quiet_of_same (HCS.out _ HQS.out) | exact Calls.quiet_of_same (HCT.out _ HQT.out)))
      have HB2 := Lib.hid (below_drewN' HB.out nq)
      have HO := Lib.hid (ownsRow_lit (n := 2) (w := (wr.drewN nq).alloc (.cells #[.int .i64 1, .int .i64 k] 3)) (xs := [.int .i64 1, .int .i64 k]) (heap_alloc_new _ _) rfl (by unfold maxLen; omega))
      go_wp2_with fail
      go_ret
      exact ⟨_, rfl, by rw [HF.out]; exact owns_mono HO.out HB2.out.size, HB2.out.alloc HB2.out.size _⟩
    · have hne : k < m := by
        rcases Nat.lt_or_eq_of_le hk with h | h
        · exact h
        · subst h; have := HM.out; unfold hasM at this; unfold hasI at h1 h2; rw [h1, h2] at this; cases this
      rw [h1] at HCS
      rw [h2] at HCT
      clear h1 h2
      go_wp2_with fail
      go_quiet ((first | exact Calls.quiet_of_same (HCS.out _ HQS.out) | exact Calls.quiet_of_same (HCT.out _ HQT.out)))
      have HB2 := Lib.hid (below_drewN' HB.out nq)
      go_wp2_with fail
      go_roundw
      case rel => exact ⟨k + 1, by omega, by go_num, HB2.out⟩
      case measure => simp [intOf]; omega

end Go.Proofs.YtdgnhfhaaghoaaaGreatDoor
