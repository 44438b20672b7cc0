/- Systems: the shortest way, the reference walked. -/
import Derived.Test.YtlgdmafgbmnjdaaProg
import Derived.Test.YtlgdmafgbmnjdaaSFarX
import Derived.Test.YtlgdmafgbmnjdaaSRankS
import Derived.Test.YtlgdmafgbmnjdaaSRanksR
set_option linter.unusedVariables false
namespace Go.Proofs.Ytlgdmafgbmnjdaa
open Go.RowKit
open Go.Sort (grow)

theorem relax_len (d : List Int) (s : I3) : (relax d s).length = d.length := by
  unfold relax
  split
  · exact List.length_set
  · rfl
theorem relax_fold_len : ∀ (ts : List I3) (d : List Int), (ts.foldl relax d).length = d.length
  | [], d => rfl
  | s :: ts, d => by rw [List.foldl_cons, relax_fold_len ts, relax_len]
theorem relax_le {d : List Int} {s : I3} {M : Int} {n : Nat} (hl : d.length = n) (hs : ∃ a b : Nat, s.1 = (a : Int) ∧ s.2.2 = (b : Int) ∧ a < n ∧ b < n) (h : ∀ i : Nat, d.getD i 0 ≤ M) : ∀ i : Nat, (relax d s).getD i 0 ≤ M + 1 := by
  obtain ⟨a, b, ha, hb, han, hbn⟩ := hs
  intro i
  unfold relax
  split
  · rw [ha, hb, atI_nat, Int.toNat_natCast, getD_set _ _ _ _ (by omega)]
    have h1 := h b
    have h2 := h i
    split <;> omega
  · have := h i
    omega
theorem relax_fold_le {n : Nat} {ss : List I3} (hs : StepsN n ss) : ∀ (ts : List I3), (∀ t ∈ ts, t ∈ ss) → ∀ (d : List Int) (M : Int), d.length = n → (∀ i : Nat, d.getD i 0 ≤ M) → ∀ i : Nat, (ts.foldl relax d).getD i 0 ≤ M + (ts.length : Int)
  | [], _, d, M, _, h, i => by have := h i; simpa using this
  | s :: ts, hsub, d, M, hl, h, i => by
    rw [List.foldl_cons]
    have := relax_fold_le hs ts (fun t ht => hsub t (List.mem_cons_of_mem _ ht)) (relax d s) (M + 1) (by rw [relax_len]; exact hl) (relax_le hl (hs s (hsub s (by simp))) h) i
    simp only [List.length_cons, Int.natCast_add, Int.natCast_one]
    omega
theorem farR_len (n : Nat) (ss : List I3) (g : List Int) : ∀ k, (farR n ss g k).length = n
  | 0 => rkInit_len n g
  | k + 1 => by rw [farR, relax_fold_len, farR_len n ss g k]
theorem farR_le {n : Nat} {ss : List I3} {g : List Int} (hs : StepsN n ss) : ∀ (k i : Nat), (farR n ss g k).getD i 0 ≤ (k : Int) * (ss.length : Int)
  | 0, i => by have := rkInit_le n g i; show (rkInit n g).getD i 0 ≤ _; simpa using this
  | k + 1, i => by
    rw [farR]
    have := relax_fold_le hs ss (fun t ht => ht) (farR n ss g k) _ (farR_len n ss g k) (fun i => farR_le hs k i) i
    have e : ((k + 1 : Nat) : Int) * (ss.length : Int) = (k : Int) * (ss.length : Int) + (ss.length : Int) := by
      rw [Int.natCast_add, Int.natCast_one, Int.add_mul, Int.one_mul]
    omega
theorem farR_mid_le {n : Nat} {ss : List I3} {g : List Int} (hs : StepsN n ss) (hn : n ≤ 40) (hl : ss.length ≤ 16777216) {k : Nat} (hk : k ≤ n) (j i : Nat) : ((ss.take j).foldl relax (farR n ss g k)).getD i 0 ≤ 1000000000 := by
  have h1 := relax_fold_le hs (ss.take j) (fun t ht => List.mem_of_mem_take ht) (farR n ss g k) _ (farR_len n ss g k) (fun i => farR_le hs k i) i
  have h2 : (ss.take j).length ≤ ss.length := by rw [List.length_take]; omega
  have h3 : (k : Int) * (ss.length : Int) ≤ 40 * 16777216 := by
    have a1 : k * ss.length ≤ 40 * 16777216 := Nat.mul_le_mul (by omega) hl
    have a2 : ((k * ss.length : Nat) : Int) ≤ ((40 * 16777216 : Nat) : Int) := by omega
    rw [Int.natCast_mul] at a2
    omega
  omega
theorem relax_next {ss : List I3} {d : List Int} {j : Nat} (h : j < ss.length) : (ss.take (j + 1)).foldl relax d = relax ((ss.take j).foldl relax d) ss[j] := by
  rw [List.take_succ_eq_append_getElem h, List.foldl_append]
  rfl
theorem find_first {l : List I3} {p : I3 → Bool} {s : I3} (h : l.find? p = some s) : ∃ (k : Nat) (hk : k < l.length), l[k] = s ∧ p s = true ∧ ∀ (j : Nat) (hj : j < l.length), j < k → p l[j] = false := by
  obtain ⟨h1, k, hk, h2, h3⟩ := List.find?_eq_some_iff_getElem.1 h
  refine ⟨k, hk, h2, h1, fun j hj hjk => ?_⟩
  have := h3 j hjk
  simpa using this

set_option maxRecDepth 100000 in
set_option maxHeartbeats 16000000 in
theorem l10Far_any (v : Value) (l : Sys) (G : Option Addr) (cg : Nat) (g : List Int) (w : World) (hs : SmallSys l) (hgood : goodSys l = true) (hv : RSys w v l) (hgn : g.length ≤ 16777216) (hG : Cells w G (ints g)) :
    Calls Try.prog 48 #[v, .slice G g.length cg] w fun e w' => ∃ gb cb, e = .returned (.slice (some ⟨gb, 0, none⟩) l.states.length cb) ∧ w'.ownsRow w.heap.size 3 1 (.slice (some ⟨gb, 0, none⟩) l.states.length cb) l.states.length (ints (farR l.states.length l.steps g l.states.length)) ∧ Below w.heap.size w w' := by
  obtain ⟨i0, hi, hz0, hz1, hz2⟩ := info_parts info_ni
  have HV := Lib.hid (show ∀ W, Below w.heap.size w W → RSys W v l from fun W hb => hv.below hb)
  have HG := Lib.hid (show ∀ W, Below w.heap.size w W → Cells W G (ints g) from fun W hb => hG.below hb)
  obtain ⟨sv, tv, rfl, hsv, htv⟩ := hv
  obtain ⟨A, c, rfl, _⟩ := hsv.form
  have htv' := htv
  obtain ⟨B, d, rfl, _, _⟩ := htv
  have HTV := Lib.hid (show ∀ W, Below w.heap.size w W → RA3 W (.slice B l.steps.length d) l.steps from fun W hb => htv'.below hb)
  have hsn := hs.1
  have hsn2 := hs.2
  obtain ⟨l1, l2⟩ := good_len hgood
  have HST := Lib.hid (show StepsN l.states.length l.steps from good_steps hgood)
  have HIT := Lib.hid (fun k (hk : k < l.states.length) => rkInit_take (g := g) hk)
  have HIL := Lib.hid (rkInit_len l.states.length g)
  have HI0 := Lib.hid (show farR l.states.length l.steps g 0 = rkInit l.states.length g from rfl)
  clear hsv hG hgood htv'
  have hbox := heap_alloc_new w (.cells #[.slice A l.states.length c, .slice B l.steps.length d] 32)
  have HBX := Lib.hid ((heap_alloc_old (w.alloc (.cells #[.slice A l.states.length c, .slice B l.steps.length d] 32)) (.cells #[] 3) (by simp)).trans hbox)
  have HB := Lib.hid (show Below w.heap.size w ((w.alloc (.cells #[.slice A l.states.length c, .slice B l.steps.length d] 32)).alloc (.cells #[] 3)) from ((Below.refl _ _).alloc (Nat.le_refl _) _).alloc (by simp) _)
  have hown := owns_zero (w.alloc (.cells #[.slice A l.states.length c, .slice B l.steps.length d] 32)) 3
  rw [World.size_alloc] at hown
  have HO := Lib.hid hown
  clear hbox hown
  go_enter Try.func48, Try.ntmps48
  go_wp2_with fail
  go_loopw [5, 6] (fun u i wr => ∃ k : Nat, k ≤ l.states.length ∧ i = .int .i64 k ∧ wr.ownsRow (w.heap.size + 1) 3 1 u k (ints ((rkInit l.states.length g).take k)) ∧ Below w.heap.size w wr ∧ wr.heap[w.heap.size]? = some (.cells #[.slice A l.states.length c, .slice B l.steps.length d] 32))
    (fun _ i _ => l.states.length - (intOf i).toNat)
  case atStart => exact ⟨0, Nat.zero_le _, rfl, HO.out, HB.out, HBX.out⟩
  case round =>
    clear HO HB HBX
    obtain ⟨k, hk, rfl, hown, hbel, hbx⟩ := hrel
    obtain ⟨AO, cO, rfl, hown⟩ := owns_form hown
    have p0 := cell_of_row wr w.heap.size 0 _ _ _ hbx
    have p1 := cell_of_row wr w.heap.size 1 _ _ _ hbx
    have HO := Lib.hid hown
    have HB := Lib.hid hbel
    have HBX := Lib.hid hbx
    have hwz : w.heap.size < wr.heap.size := (Array.getElem?_eq_some_iff.1 hbx).1
    have HWZ := Lib.hid hwz
    clear hown hbel hbx
    by_cases hlt : k < l.states.length
    · have HTK := Lib.hid (HIT.out k hlt)
      have hltk : ((rkInit l.states.length g).take k).length = k := by rw [List.length_take, HIL.out]; omega
      have HLT := Lib.hid hltk
      clear hltk p1
      generalize (rkInit l.states.length g).take k = tk at *
      have HH := Lib.hid (l1Has_any G cg g (k : Int) wr hgn (HG.out _ HB.out))
      have hgo : ∀ x : Int, ints tk ++ [.int .i64 x] = ints (tk ++ [x]) := fun x => by simp [ints]
      have HGO := Lib.hid hgo
      clear hgo
      cases hh : hasI g (k : Int)
      · rw [hh, if_neg Bool.false_ne_true] at HTK
        rw [hh] at HH
        clear hh
        go_wp2_with (first | ((with_reducible refine HH.out.mono ?_); rintro er w4 ⟨rfl, rfl⟩) | (at_builtin; refine wpList_append_own _ rfl _ _ 26 rfl (w.heap.size + 1) 3 i0 (.int .i64 0) 1 8 Try.underlying26 hi hz0 hz1 hz2 rfl (by decide) _ _ _ rfl (HO.out.alloc _) ⟨wr.heap.size, 0, none⟩ 1 1 [.int .i64 (-1)] rfl rfl ?c1 ?c2 ?c3 ?c4 ?c5 ?_))
        case c1 => exact new_cell1 _ _ _ rfl
        case c2 => intro u hu; simp at hu; subst hu; rfl
        case c3 => unfold maxLen; omega
        case c4 => omega
        case c5 => simp; omega
        intro v2 w2 hown2 hgrow2 _
        rw [HGO.out, ← HTK.out] at hown2
        have HO2 := Lib.hid hown2
        have HB2 := Lib.hid ((HB.out.alloc HB.out.size _).grown hgrow2 (by simp; omega) (fun q hq => by have := (HO.out.lt q hq).1; omega))
        have HBX2 := Lib.hid ((hgrow2.block w.heap.size (by simp; omega) (fun e => by have := (HO.out.lt _ e.symm).1; omega)).trans ((heap_alloc_old _ _ HWZ.out).trans HBX.out))
        clear hown2 hgrow2 p0
        go_wp2_with fail
        go_roundw
        case rel => exact ⟨k + 1, by omega, by go_num, HO2.out, HB2.out, HBX2.out⟩
        case measure => simp [intOf]; omega
      · rw [hh, if_pos rfl] at HTK
        rw [hh] at HH
        clear hh
        go_wp2_with (first | ((with_reducible refine HH.out.mono ?_); rintro er w4 ⟨rfl, rfl⟩) | (at_builtin; refine wpList_append_own _ rfl _ _ 26 rfl (w.heap.size + 1) 3 i0 (.int .i64 0) 1 8 Try.underlying26 hi hz0 hz1 hz2 rfl (by decide) _ _ _ rfl (HO.out.alloc _) ⟨wr.heap.size, 0, none⟩ 1 1 [.int .i64 0] rfl rfl ?c1 ?c2 ?c3 ?c4 ?c5 ?_))
        case c1 => exact new_cell1 _ _ _ rfl
        case c2 => intro u hu; simp at hu; subst hu; rfl
        case c3 => unfold maxLen; omega
        case c4 => omega
        case c5 => simp; omega
        intro v2 w2 hown2 hgrow2 _
        rw [HGO.out, ← HTK.out] at hown2
        have HO2 := Lib.hid hown2
        have HB2 := Lib.hid ((HB.out.alloc HB.out.size _).grown hgrow2 (by simp; omega) (fun q hq => by have := (HO.out.lt q hq).1; omega))
        have HBX2 := Lib.hid ((hgrow2.block w.heap.size (by simp; omega) (fun e => by have := (HO.out.lt _ e.symm).1; omega)).trans ((heap_alloc_old _ _ HWZ.out).trans HBX.out))
        clear hown2 hgrow2 p0
        go_wp2_with fail
        go_roundw
        case rel => exact ⟨k + 1, by omega, by go_num, HO2.out, HB2.out, HBX2.out⟩
        case measure => simp [intOf]; omega
    · obtain rfl : k = l.states.length := by omega
      rw [List.take_of_length_le (by rw [HIL.out]; exact Nat.le_refl _), ← HI0.out] at HO
      obtain ⟨gb, cb, e, hg1, hg2⟩ := owns_nn HO.out l1
      cases e
      go_wp2_with fail
      clear p0 p1
      go_loopw [7] (fun i wr => ∃ k : Nat, k ≤ l.states.length ∧ i = .int .i64 k ∧ wr.ownsRow (w.heap.size + 1) 3 1 (.slice (some ⟨gb, 0, none⟩) l.states.length cO) l.states.length (ints (farR l.states.length l.steps g k)) ∧ Below w.heap.size w wr ∧ wr.heap[w.heap.size]? = some (.cells #[.slice A l.states.length c, .slice B l.steps.length d] 32))
        (fun i _ => l.states.length - (intOf i).toNat)
      case atStart => exact ⟨0, Nat.zero_le _, rfl, HO.out, HB.out, HBX.out⟩
      case round =>
        clear HO HB HBX HWZ hwz
        obtain ⟨k, hk, rfl, hown, hbel, hbx⟩ := hrel
        have p0 := cell_of_row wr w.heap.size 0 _ _ _ hbx
        have p1 := cell_of_row wr w.heap.size 1 _ _ _ hbx
        have HO := Lib.hid hown
        have HB := Lib.hid hbel
        have HBX := Lib.hid hbx
        clear hown hbel hbx
        by_cases hlt : k < l.states.length
        · have HNX := Lib.hid (show farR l.states.length l.steps g (k + 1) = l.steps.foldl relax (farR l.states.length l.steps g k) from rfl)
          have HLE := Lib.hid (fun j i => farR_mid_le (g := g) HST.out l2 hsn2 (Nat.le_of_lt hlt) j i)
          have HLN := Lib.hid (farR_len l.states.length l.steps g k)
          generalize hfk : farR l.states.length l.steps g k = fk at *
          clear hfk
          go_wp2_with fail
          clear p0 p1
          go_loopw [8] (fun i wr => ∃ j : Nat, j ≤ l.steps.length ∧ i = .int .i64 j ∧ wr.ownsRow (w.heap.size + 1) 3 1 (.slice (some ⟨gb, 0, none⟩) l.states.length cO) l.states.length (ints ((l.steps.take j).foldl relax fk)) ∧ Below w.heap.size w wr ∧ wr.heap[w.heap.size]? = some (.cells #[.slice A l.states.length c, .slice B l.steps.length d] 32))
            (fun i _ => l.steps.length - (intOf i).toNat)
          case atStart => exact ⟨0, Nat.zero_le _, rfl, HO.out, HB.out, HBX.out⟩
          case round =>
            clear HO HB HBX
            obtain ⟨j, hj, rfl, hown, hbel, hbx⟩ := hrel
            have p0 := cell_of_row wr w.heap.size 0 _ _ _ hbx
            have p1 := cell_of_row wr w.heap.size 1 _ _ _ hbx
            by_cases hjl : j < l.steps.length
            · obtain ⟨bb, oo, cc, e, h0, h1, h2⟩ := (HTV.out wr hbel).at_ (List.getElem?_eq_getElem hjl)
              cases e
              obtain ⟨a, b, ha, hb, han, hbn⟩ := HST.out _ (List.getElem_mem hjl)
              have HRN := Lib.hid (relax_next (d := fk) hjl)
              have hlj := relax_fold_len (l.steps.take j) fk
              rw [HLN.out] at hlj
              have hle := HLE.out j b
              generalize l.steps[j] = s at *
              obtain ⟨s1, s2, s3⟩ := s
              dsimp only at ha hb h0 h1 h2
              subst ha
              subst hb
              generalize (l.steps.take j).foldl relax fk = dj at *
              have hA : Below wr.heap.size wr (wr.alloc (.cells #[.int .i64 (a : Int), .int .i64 s2, .int .i64 (b : Int)] 69)) := (Below.refl _ _).alloc (Nat.le_refl _) _
              have hoA := hown.alloc (.cells #[.int .i64 (a : Int), .int .i64 s2, .int .i64 (b : Int)] 69)
              obtain ⟨k2, k3⟩ := own_at hoA hlj han
              obtain ⟨k4, k5⟩ := own_at hoA hlj hbn
              have e0 : (wr.alloc (.cells #[.int .i64 (a : Int), .int .i64 s2, .int .i64 (b : Int)] 69)).cell? ⟨wr.heap.size, 0, none⟩ = some (.int .i64 (a : Int)) := cell_of_row _ _ _ _ _ _ (heap_alloc_new _ _)
              have e2 : (wr.alloc (.cells #[.int .i64 (a : Int), .int .i64 s2, .int .i64 (b : Int)] 69)).cell? ⟨wr.heap.size, 2, none⟩ = some (.int .i64 (b : Int)) := cell_of_row _ _ _ _ _ _ (heap_alloc_new _ _)
              have HDEF := Lib.hid (show relax dj ((a : Int), s2, (b : Int)) = if decide (0 ≤ dj.getD b 0) && (decide (dj.getD a 0 < 0) || decide (dj.getD b 0 + 1 < dj.getD a 0)) then dj.set a (dj.getD b 0 + 1) else dj by
                unfold relax
                simp only [atI_nat, Int.toNat_natCast])
              have HOA := Lib.hid (fun m => show ((wr.alloc (.cells #[.int .i64 (a : Int), .int .i64 s2, .int .i64 (b : Int)] 69)).drewN m).ownsRow (w.heap.size + 1) 3 1 (.slice (some ⟨gb, 0, none⟩) l.states.length cO) l.states.length (ints dj) from hoA)
              have HBA := Lib.hid (fun m => below_drewN' (hbel.trans (hA.mono hbel.size)) m)
              have HXA := Lib.hid (fun m => show ((wr.alloc (.cells #[.int .i64 (a : Int), .int .i64 s2, .int .i64 (b : Int)] 69)).drewN m).heap[w.heap.size]? = some (.cells #[.slice A l.states.length c, .slice (some ⟨bb, oo, none⟩) l.steps.length d] 32) from (hA.block w.heap.size (Array.getElem?_eq_some_iff.1 hbx).1).trans hbx)
              have HGB := Lib.hid (hown.lt gb rfl)
              have HWZ := Lib.hid (show w.heap.size < wr.heap.size from (Array.getElem?_eq_some_iff.1 hbx).1)
              clear hown hbel hbx hA hoA
              generalize dj.getD b 0 = z at *
              generalize hya : dj.getD a 0 = y at *
              clear hya
              have b0 : (0 : Int) ≤ (j : Int) := by omega
              have b1 : (j : Int) < (l.steps.length : Int) := by omega
              have b2 : (0 : Int) ≤ (a : Int) := by omega
              have b3 : (a : Int) < (l.states.length : Int) := by omega
              have b4 : (0 : Int) ≤ (b : Int) := by omega
              have b5 : (b : Int) < (l.states.length : Int) := by omega
              by_cases hz : 0 ≤ z
              case neg =>
                have hzd : decide (0 ≤ z) = false := decide_eq_false hz
                rw [hzd, Bool.false_and, if_neg Bool.false_ne_true] at HDEF
                have HE := Lib.hid (HRN.out.trans HDEF.out)
                go_wp2_with fail
                go_quiet (fail)
                go_wp2_with fail
                go_roundw
                case rel => exact ⟨j + 1, by omega, by go_num, by rw [HE.out]; exact HOA.out _, HBA.out _, HXA.out _⟩
                case measure => simp [intOf]; omega
              have hzd : decide (0 ≤ z) = true := decide_eq_true hz
              rw [hzd, Bool.true_and] at HDEF
              have hwr : IntKind.i64.wrap (z + 1) = z + 1 := IntWalk.i64_in _ (by omega)
              by_cases hc : y < 0 ∨ z + 1 < y
              case neg =>
                have hyd : decide (y < 0) = false := decide_eq_false (fun h => hc (.inl h))
                have hyz : decide (z + 1 < y) = false := decide_eq_false (fun h => hc (.inr h))
                have hy1 : ¬ y < 0 := fun h => hc (.inl h)
                have hy2 : ¬ z + 1 < y := fun h => hc (.inr h)
                rw [hyd, hyz, Bool.or_false, if_neg Bool.false_ne_true] at HDEF
                have HE := Lib.hid (HRN.out.trans HDEF.out)
                clear hc
                go_wp2_with fail
                go_quiet (fail)
                go_wp2_with fail
                go_roundw
                case rel => exact ⟨j + 1, by omega, by go_num, by rw [HE.out]; exact HOA.out _, HBA.out _, HXA.out _⟩
                case measure => simp [intOf]; omega
              have hor : (decide (y < 0) || decide (z + 1 < y)) = true := by
                rcases hc with h | h
                · rw [decide_eq_true h, Bool.true_or]
                · rw [decide_eq_true h, Bool.or_true]
              rw [hor, if_pos rfl] at HDEF
              have HE := Lib.hid (HRN.out.trans HDEF.out)
              clear hor
              by_cases hy : y < 0
              all_goals
                first
                  | (have hyd : decide (y < 0) = true := decide_eq_true hy)
                  | (have hyd : decide (y < 0) = false := decide_eq_false hy; have hyz : z + 1 < y := hc.resolve_left hy; have hyz2 : decide (z + 1 < y) = true := decide_eq_true hyz)
                clear hc
                go_wp2_with fail
                go_quiet (fail)
                go_wp2_with fail
                generalize hW2 : World.drewN (wr.alloc (.cells #[.int .i64 (a : Int), .int .i64 s2, .int .i64 (b : Int)] 69)) _ = W2
                have HO2 := Lib.hid (show W2.ownsRow (w.heap.size + 1) 3 1 (.slice (some ⟨gb, 0, none⟩) l.states.length cO) l.states.length (ints dj) from by rw [← hW2]; exact HOA.out _)
                have HB2 := Lib.hid (show Below w.heap.size w W2 from by rw [← hW2]; exact HBA.out _)
                have HX2 := Lib.hid (show W2.heap[w.heap.size]? = some (.cells #[.slice A l.states.length c, .slice (some ⟨bb, oo, none⟩) l.steps.length d] 32) from by rw [← hW2]; exact HXA.out _)
                have k2 : W2.cell? ⟨gb, a, none⟩ = some (.int .i64 y) := by rw [← hW2]; exact k2
                have k3 : W2.frozen? ⟨gb, a, none⟩ = false := by rw [← hW2]; exact k3
                have k4 : W2.cell? ⟨gb, b, none⟩ = some (.int .i64 z) := by rw [← hW2]; exact k4
                have e0 : W2.cell? ⟨wr.heap.size, 0, none⟩ = some (.int .i64 (a : Int)) := by rw [← hW2]; exact e0
                have e2 : W2.cell? ⟨wr.heap.size, 2, none⟩ = some (.int .i64 (b : Int)) := by rw [← hW2]; exact e2
                have HO3 := Lib.hid (show (W2.setCell ⟨gb, a, none⟩ (.int .i64 (z + 1))).drew.ownsRow (w.heap.size + 1) 3 1 (.slice (some ⟨gb, 0, none⟩) l.states.length cO) l.states.length (ints (dj.set a (z + 1))) from own_set HO2.out han (z + 1))
                have HB3 := Lib.hid (show Below w.heap.size w (W2.setCell ⟨gb, a, none⟩ (.int .i64 (z + 1))).drew from (HB2.out.setCell (p := ⟨gb, a, none⟩) (by show w.heap.size ≤ gb; have := HGB.out; omega) _).drew)
                have HX3 := Lib.hid (show (W2.setCell ⟨gb, a, none⟩ (.int .i64 (z + 1))).drew.heap[w.heap.size]? = some (.cells #[.slice A l.states.length c, .slice (some ⟨bb, oo, none⟩) l.steps.length d] 32) from (heap_setCell_other _ _ _ _ (by have := HGB.out; dsimp only; omega)).trans HX2.out)
                clear hW2 k5 HOA HBA HXA p0 p1
                refine wp_region_still_tail 10 (by kernel_rfl) (by kernel_rfl) ?_
                simp only [List.take_succ_cons, List.take_zero, List.drop_succ_cons, List.drop_zero]
                repeat still_step
                refine wpStill_nil ?_
                clear hwr
                change wpList _ _ _ _ _ W2.drew
                go_wp2_with fail
                go_roundw
                case rel => exact ⟨j + 1, by omega, by go_num, by rw [HE.out]; exact HO3.out, HB3.out, HX3.out⟩
                case measure => simp [intOf]; omega
            · obtain rfl : j = l.steps.length := by omega
              rw [List.take_length, ← HNX.out] at hown
              have HO := Lib.hid hown
              have HB := Lib.hid hbel
              have HBX := Lib.hid hbx
              clear hown hbel hbx
              go_wp2_with fail
              go_roundw
              case rel => exact ⟨k + 1, by omega, by go_num, HO.out, HB.out, HBX.out⟩
              case measure => simp [intOf]; omega
        · obtain rfl : k = l.states.length := by omega
          have HR := Lib.hid (owns_mono HO.out (Nat.le_succ w.heap.size))
          go_wp2_with fail
          go_ret
          exact ⟨_, _, rfl, HR.out, HB.out⟩

theorem apart3 {w : World} {B1 B2 : Nat} {e1 e2 : TypeId} {s1 s2 : Nat} {v1 v2 : Value} {n1 n2 : Nat} {xs1 xs2 : List Value} (h1 : w.ownsRow B1 e1 s1 v1 n1 xs1) (h2 : w.ownsRow B2 e2 s2 v2 n2 xs2) (he : e1 ≠ e2) (g : Nat) (hg : v1.ownBlock = some g) : v2.ownBlock ≠ some g := by
  intro hg2
  rcases h1.2 with ⟨rfl, _⟩ | ⟨g1, _, _, rfl, _, a1, _⟩
  · simp [Value.ownBlock] at hg
  · rcases h2.2 with ⟨rfl, _⟩ | ⟨g2, _, _, rfl, _, a2, _⟩
    · simp [Value.ownBlock] at hg2
    · simp only [Value.ownBlock, Option.some.injEq] at hg hg2
      subst hg
      subst hg2
      rw [a1] at a2
      injection a2 with a2
      injection a2 with _ a2
      exact he a2
theorem grown3 {w w' : World} {B : Nat} {e : TypeId} {s : Nat} {v : Value} {n : Nat} {xs : List Value} {row : Option Nat} (h : w.ownsRow B e s v n xs) (hg : w.grownBy w' row) (hne : ∀ g, v.ownBlock = some g → row ≠ some g) : w'.ownsRow B e s v n xs := by
  refine ⟨h.1, ?_⟩
  rcases h.2 with hn | ⟨g, cap, cur, rfl, hbg, hgg, rest⟩
  · exact .inl hn
  · have hlt := (Array.getElem?_eq_some_iff.1 hgg).1
    exact .inr ⟨g, cap, cur, rfl, hbg, by rw [hg.block g hlt (hne g rfl).symm]; exact hgg, rest⟩
theorem new_cell3 (W : World) (x y z : Int) (ty : TypeId) {n : Nat} (hs : W.heap.size = n) : ∀ j u, (tri (x, y, z))[j]? = some u → (W.alloc (.cells #[.int .i64 x, .int .i64 y, .int .i64 z] ty)).cell? ((⟨n, 0, none⟩ : Addr).add j) = some u := by
  subst hs
  intro j u hj
  rw [Addr.add_lit, Nat.zero_add, cell_of_row _ _ _ _ _ _ (heap_alloc_new _ _)]
  simpa [tri] using hj
def farW (W : World) (p : Value) (g : Nat) : Nat := match W.cell? ⟨g, (intOf p).toNat, none⟩ with | some (.int _ x) => x.toNat | _ => 0

theorem up_farL {l : Sys} {g : List Int} (hs : StepsN l.states.length l.steps) (hg : g.Pairwise (· < ·)) (hn : InN l.states.length g) : Up l.states.length (farL l g) := by
  obtain ⟨i, hi1, hi2⟩ := far_stop hs hg hn
  have h3 : i ≤ l.states.length := by have := far_len hs hg hn (i := i) (by omega); omega
  have := up_farAt hs hg hn i (by omega)
  rw [← hi2 l.states.length h3] at this
  exact this
theorem short_len (l : Sys) (p : Int) (g : List Int) : (shortL l p g).length ≤ 16777216 := by
  unfold shortL
  split
  · rename_i h
    unfold okShort at h
    simp only [Bool.and_eq_true, Bool.not_eq_true', decide_eq_false_iff_not] at h
    obtain ⟨⟨⟨hg, hst⟩, hgo⟩, hy⟩ := h
    have hpst := inB_true (show inB p 0 ((l.states.length : Int) - 1) = true from hst)
    obtain ⟨ps, rfl⟩ := Int.eq_ofNat_of_zero_le hpst.1
    have hgi := goals_of hgo
    have HST : StepsN l.states.length l.steps := good_steps hg
    have l2 := (good_len hg).2
    have HOK : FarOK l.states.length l.steps g (farL l g) := far_ok HST hgi.1 hgi.2
    have HUP := up_farL HST hgi.1 hgi.2 ps
    rw [atI_nat] at hy ⊢
    obtain ⟨m, hm⟩ := Int.eq_ofNat_of_zero_le (show 0 ≤ (farL l g).getD ps 0 by omega)
    have hw := way_len HST HOK m ps (by omega) hm
    rw [hm, Int.toNat_natCast]
    omega
  · simp

set_option maxRecDepth 100000 in
set_option maxHeartbeats 16000000 in
theorem specShortestWay_any (v u2 : Value) (l : Sys) (p : Int) (g : List Int) (w : World) (hs : SmallSys l) (hv : RSys w v l) (hgn : g.length ≤ 16777216) (hg1 : RI w u2 g) :
    Calls Try.prog 16 #[v, .int .i64 p, u2] w fun e w' => ∃ r, e = .returned (.tuple #[r, .bool (okShort l p g)]) ∧ w'.ownsRow w.heap.size 69 3 r (shortL l p g).length ((shortL l p g).flatMap tri) ∧ Below w.heap.size w w' := by
  obtain ⟨j0, hj0, hy0', hy1', hy2'⟩ := info_parts info_fa
  have HV := Lib.hid (show ∀ W, Below w.heap.size w W → RSys W v l from fun W hb => hv.below hb)
  obtain ⟨G, cg, rfl, _, hG⟩ := hg1
  have HG := Lib.hid (show ∀ W, Below w.heap.size w W → Cells W G (ints g) from fun W hb => hG.below hb)
  obtain ⟨sv, tv, rfl, hsv, htv⟩ := hv
  obtain ⟨A, c, rfl, _⟩ := hsv.form
  obtain ⟨B, d, rfl, _, _⟩ := htv
  have hsn := hs.1
  have hsn2 := hs.2
  clear hsv hG
  obtain ⟨W0, hW0⟩ : ∃ W0, W0 = ((w.alloc (.cells #[.slice A l.states.length c, .slice B l.steps.length d] 32)).alloc (.cells #[] 69)) := ⟨_, rfl⟩
  have hb0 : Below w.heap.size w W0 := by rw [hW0]; exact ((Below.refl _ _).alloc (Nat.le_refl _) _).alloc (by simp) _
  have hbx : W0.heap[w.heap.size]? = some (.cells #[.slice A l.states.length c, .slice B l.steps.length d] 32) := by rw [hW0]; exact (heap_alloc_old _ _ (by simp)).trans (heap_alloc_new _ _)
  have hown : W0.ownsRow (w.heap.size + 1) 69 3 (.slice (some ⟨w.heap.size + 1, 0, none⟩) 0 0) 0 [] := by
    rw [hW0]
    have h := World.ownsRow_made (w.alloc (.cells #[.slice A l.states.length c, .slice B l.steps.length d] 32)) (e := 69) (size := 3) #[] 0 (Nat.le_refl _) (Nat.zero_le _) rfl
    rw [World.size_alloc] at h
    exact h
  have x0 : W0.cell? ⟨w.heap.size, 0, none⟩ = some (.slice A l.states.length c) := cell_of_row _ _ _ _ _ _ hbx
  have x1 : W0.cell? ⟨w.heap.size, 1, none⟩ = some (.slice B l.steps.length d) := cell_of_row _ _ _ _ _ _ hbx
  have HW := Lib.hid hW0
  have HB := Lib.hid hb0
  have HBX := Lib.hid hbx
  have HOWN := Lib.hid hown
  have H1 := Lib.hid (l10Good_any _ l W0 hs (HV.out _ hb0))
  clear hW0 hb0 hbx hown
  cases hg : goodSys l
  · have E2 := Lib.hid (show okShort l p g = false by unfold okShort; rw [hg]; rfl)
    have E1 := Lib.hid (show shortL l p g = [] by unfold shortL; rw [E2.out]; rfl)
    rw [hg] at H1
    clear hg
    go_enter Try.func16, Try.ntmps16
    go_wp2_with fail
    rw [← HW.out]
    refine H1.out.mono ?_
    rintro e w1 ⟨rfl, hw1⟩
    have HO := Lib.hid (owns_mono (owns_below HOWN.out hw1 (Nat.le_refl _)) (Nat.le_succ w.heap.size))
    have HZ := Lib.hid (HB.out.trans (hw1.mono HB.out.size))
    clear hw1
    go_wp2_with fail
    go_ret2
    rw [E1.out, E2.out]
    exact ⟨_, rfl, HO.out, HZ.out⟩
  obtain ⟨l1, l2⟩ := good_len hg
  have HGD := Lib.hid hg
  rw [hg] at H1
  clear hg
  cases hst : stateB l p
  · have E2 := Lib.hid (show okShort l p g = false by unfold okShort; rw [hst, Bool.and_false]; rfl)
    have E1 := Lib.hid (show shortL l p g = [] by unfold shortL; rw [E2.out]; rfl)
    go_enter Try.func16, Try.ntmps16
    go_wp2_with fail
    rw [← HW.out]
    refine H1.out.mono ?_
    rintro e w1 ⟨rfl, hw1⟩
    have x0 := cell_below hw1 x0 (lt_of_cell x0)
    have x1 := cell_below hw1 x1 (lt_of_cell x1)
    have HO1 := Lib.hid (owns_below HOWN.out hw1 (Nat.le_refl _))
    have HZ1 := Lib.hid (HB.out.trans (hw1.mono HB.out.size))
    clear hw1
    go_wp2_with fail
    refine (l10State_any _ l p w1 hs (HV.out w1 HZ1.out)).mono ?_
    rintro e w2 ⟨rfl, hw2⟩
    rw [hst]
    have HO := Lib.hid (owns_mono (owns_below HO1.out hw2 (Nat.le_refl _)) (Nat.le_succ w.heap.size))
    have HZ := Lib.hid (HZ1.out.trans (hw2.mono HZ1.out.size))
    clear hw2 x0 x1
    go_wp2_with fail
    go_ret2
    rw [E1.out, E2.out]
    exact ⟨_, rfl, HO.out, HZ.out⟩
  have hpst := inB_true (show inB p 0 ((l.states.length : Int) - 1) = true from hst)
  obtain ⟨ps, rfl⟩ := Int.eq_ofNat_of_zero_le hpst.1
  have hpl : ps < l.states.length := by omega
  clear hpst
  go_enter Try.func16, Try.ntmps16
  go_wp2_with fail
  rw [← HW.out]
  refine H1.out.mono ?_
  rintro e w1 ⟨rfl, hw1⟩
  have x0 := cell_below hw1 x0 (lt_of_cell x0)
  have x1 := cell_below hw1 x1 (lt_of_cell x1)
  have HO1 := Lib.hid (owns_below HOWN.out hw1 (Nat.le_refl _))
  have HZ1 := Lib.hid (HB.out.trans (hw1.mono HB.out.size))
  have HBX1 := Lib.hid ((hw1.block w.heap.size (Array.getElem?_eq_some_iff.1 HBX.out).1).trans HBX.out)
  clear hw1
  go_wp2_with fail
  refine (l10State_any _ l (ps : Int) w1 hs (HV.out w1 HZ1.out)).mono ?_
  rintro e w2 ⟨rfl, hw2⟩
  rw [hst]
  have x0 := cell_below hw2 x0 (lt_of_cell x0)
  have x1 := cell_below hw2 x1 (lt_of_cell x1)
  have HO2 := Lib.hid (owns_below HO1.out hw2 (Nat.le_refl _))
  have HZ2 := Lib.hid (HZ1.out.trans (hw2.mono HZ1.out.size))
  have HBX2 := Lib.hid ((hw2.block w.heap.size (Array.getElem?_eq_some_iff.1 HBX1.out).1).trans HBX1.out)
  clear hw2
  go_wp2_with fail
  refine (l10Goals_any _ l G cg g w2 hs (HV.out w2 HZ2.out) hgn (HG.out w2 HZ2.out)).mono ?_
  rintro e w3 ⟨rfl, hw3⟩
  have x0 := cell_below hw3 x0 (lt_of_cell x0)
  have x1 := cell_below hw3 x1 (lt_of_cell x1)
  have HO3 := Lib.hid (owns_below HO2.out hw3 (Nat.le_refl _))
  have HZ3 := Lib.hid (HZ2.out.trans (hw3.mono HZ2.out.size))
  have HBX3 := Lib.hid ((hw3.block w.heap.size (Array.getElem?_eq_some_iff.1 HBX2.out).1).trans HBX2.out)
  clear hw3
  cases hgo : goalsB l g
  · have E2 := Lib.hid (show okShort l (ps : Int) g = false by unfold okShort; rw [hgo, Bool.and_false]; rfl)
    have E1 := Lib.hid (show shortL l (ps : Int) g = [] by unfold shortL; rw [E2.out]; rfl)
    have HO := Lib.hid (owns_mono HO3.out (Nat.le_succ w.heap.size))
    go_wp2_with fail
    go_ret2
    rw [E1.out, E2.out]
    exact ⟨_, rfl, HO.out, HZ3.out⟩
  have hgi := goals_of hgo
  have HGP := Lib.hid hgi.1
  have HGI := Lib.hid (show InN l.states.length g from hgi.2)
  have HST := Lib.hid (show StepsN l.states.length l.steps from good_steps HGD.out)
  have E2 := Lib.hid (show okShort l (ps : Int) g = !decide (atI (farL l g) (ps : Int) < 0) by unfold okShort; rw [HGD.out, hst, hgo]; rfl)
  have HFR := Lib.hid (show farR l.states.length l.steps g l.states.length = farL l g from farR_done HST.out HGP.out HGI.out)
  have HOK := Lib.hid (show FarOK l.states.length l.steps g (farL l g) from far_ok HST.out HGP.out HGI.out)
  have HUP := Lib.hid (show Up l.states.length (farL l g) by
    obtain ⟨i, hi1, hi2⟩ := far_stop HST.out HGP.out HGI.out
    have h3 : i ≤ l.states.length := by have := far_len HST.out HGP.out HGI.out (i := i) (by omega); omega
    have := up_farAt HST.out HGP.out HGI.out i (by omega)
    rw [← hi2 l.states.length h3] at this
    exact this)
  clear hgi
  go_wp2_with fail
  refine (l10Far_any _ l G cg g w3 hs HGD.out (HV.out w3 HZ3.out) hgn (HG.out w3 HZ3.out)).mono ?_
  rintro e w4 ⟨gb, cb, rfl, hfar, hw4⟩
  rw [HFR.out] at hfar
  have x0 := cell_below hw4 x0 (lt_of_cell x0)
  have x1 := cell_below hw4 x1 (lt_of_cell x1)
  have HO4 := Lib.hid (owns_below HO3.out hw4 (Nat.le_refl _))
  have HZ4 := Lib.hid (HZ3.out.trans (hw4.mono HZ3.out.size))
  have HBX4 := Lib.hid ((hw4.block w.heap.size (Array.getElem?_eq_some_iff.1 HBX3.out).1).trans HBX3.out)
  have HFA := Lib.hid hfar
  have hlf : (farL l g).length = l.states.length := HOK.out.len
  obtain ⟨q3, _⟩ := own_at hfar hlf hpl
  have HLF := Lib.hid hlf
  clear hw4 hfar hlf
  have HE3 := Lib.hid (show atI (farL l g) (ps : Int) = (farL l g).getD ps 0 from atI_nat _ _)
  rw [HE3.out] at E2
  have HSL := Lib.hid (show okShort l (ps : Int) g = true → shortL l (ps : Int) g = wayL l.steps (farL l g) ((farL l g).getD ps 0).toNat (ps : Int) from fun h => by unfold shortL; rw [if_pos h, HE3.out])
  have HY := Lib.hid (fun (m : Nat) (h : (farL l g).getD ps 0 = (m : Int)) => way_len HST.out HOK.out m ps hpl h)
  have b0 : (0 : Int) ≤ (ps : Int) := by omega
  have b1 : (ps : Int) < (l.states.length : Int) := by omega
  have hmo : (farL l g).getD ps 0 ≤ 40 := by have := HUP.out ps; omega
  generalize hfy : (farL l g).getD ps 0 = y at *
  have HFY := Lib.hid hfy
  clear hfy
  by_cases hy : y < 0
  · have E3 := Lib.hid (show okShort l (ps : Int) g = false by rw [E2.out, decide_eq_true hy]; rfl)
    have E1 := Lib.hid (show shortL l (ps : Int) g = [] by unfold shortL; rw [E3.out]; rfl)
    have HO := Lib.hid (owns_mono HO4.out (Nat.le_succ w.heap.size))
    go_wp2_with fail
    go_ret2
    rw [E1.out, E3.out]
    exact ⟨_, rfl, HO.out, HZ4.out⟩
  have E3 := Lib.hid (show okShort l (ps : Int) g = true by rw [E2.out, decide_eq_false hy]; rfl)
  obtain ⟨m0, rfl⟩ := Int.eq_ofNat_of_zero_le (show 0 ≤ y by omega)
  have E1 := Lib.hid (show shortL l (ps : Int) g = wayL l.steps (farL l g) m0 (ps : Int) by rw [HSL.out E3.out, Int.toNat_natCast])
  have HLN := Lib.hid (show (shortL l (ps : Int) g).length ≤ 40 by rw [E1.out, HY.out m0 rfl]; omega)
  go_wp2_with fail
  clear x0 x1 q3
  go_loopw [1, 8] (fun pv u wr => ∃ (m q : Nat) (ws : List I3), pv = .int .i64 q ∧ q < l.states.length ∧ (farL l g).getD q 0 = (m : Int) ∧ shortL l (ps : Int) g = ws ++ wayL l.steps (farL l g) m (q : Int) ∧ wr.ownsRow (w.heap.size + 1) 69 3 u ws.length (ws.flatMap tri) ∧ wr.ownsRow w3.heap.size 3 1 (.slice (some ⟨gb, 0, none⟩) l.states.length cb) l.states.length (ints (farL l g)) ∧ Below w.heap.size w wr ∧ wr.heap[w.heap.size]? = some (.cells #[.slice A l.states.length c, .slice B l.steps.length d] 32))
    (fun pv u wr => farW wr pv gb)
  case atStart => exact ⟨m0, ps, [], rfl, hpl, HFY.out, by rw [E1.out]; rfl, HO4.out, HFA.out, HZ4.out, HBX4.out⟩
  case round =>
    clear HO4 HFA HZ4 HBX4
    obtain ⟨m, q, ws, rfl, hqn', hfq, hsh, hown, hfar, hbel, hbx⟩ := hrel
    obtain ⟨AO, cO, rfl, hown⟩ := owns_form hown
    have HO := Lib.hid hown
    have HFA := Lib.hid hfar
    have HB1 := Lib.hid hbel
    have HBX1 := Lib.hid hbx
    have HSH := Lib.hid hsh
    have HQN' := Lib.hid hqn'
    obtain ⟨r3, _⟩ := own_at hfar HLF.out hqn'
    rw [hfq] at r3
    have HR3 := Lib.hid r3
    have HFQ := Lib.hid hfq
    have x0 := cell_of_row wr w.heap.size 0 _ _ _ hbx
    have x1 := cell_of_row wr w.heap.size 1 _ _ _ hbx
    have HWZ := Lib.hid (show w.heap.size < wr.heap.size from (Array.getElem?_eq_some_iff.1 hbx).1)
    have b2 : (0 : Int) ≤ (q : Int) := by omega
    have b3 : (q : Int) < (l.states.length : Int) := by omega
    have hwl : ws.length ≤ 40 := by have := congrArg List.length hsh; rw [List.length_append] at this; have := HLN.out; omega
    clear hown hfar hbel hbx hsh hfq
    cases m with
    | zero =>
      have HE := Lib.hid (show shortL l (ps : Int) g = ws by rw [HSH.out]; exact List.append_nil _)
      have HR := Lib.hid (owns_mono HO.out (Nat.le_succ _))
      clear x0 x1
      go_wp2_with fail
      go_ret2
      rw [E3.out, HE.out]
      exact ⟨_, rfl, HR.out, HB1.out⟩
    | succ m =>
      have hmn : m + 1 ≤ 40 := by have := HUP.out q; have := HFQ.out; omega
      obtain ⟨s, hs1, hs2, hs3, hs4⟩ := near_some HST.out HOK.out HQN'.out (by rw [HFQ.out]; omega)
      have hs1' : (fromL l.steps (q : Int)).find? (fun s => atI (farL l g) s.2.2 == atI (farL l g) (q : Int) - 1) = some s := (near_from l.steps (farL l g) (q : Int)).trans hs1
      obtain ⟨K, hK, hKs, hKp, hKf⟩ := find_first hs1'
      obtain ⟨a, b, ha, hb, han, hbn⟩ := HST.out s hs2
      have hfb : (farL l g).getD b 0 = (m : Int) := by
        rw [hb, atI_nat, HFQ.out] at hs4
        omega
      have HWN := Lib.hid (way_next (k := m) hs1)
      have HSE := Lib.hid (show s = ((a : Int), s.2.1, (b : Int)) by rw [← ha, ← hb])
      have hpq : atI (farL l g) (q : Int) = ((m + 1 : Nat) : Int) := by rw [atI_nat]; exact HFQ.out
      have HFRS := Lib.hid (fun (j : Nat) (hj : j < (fromL l.steps (q : Int)).length) => HST.out ((fromL l.steps (q : Int))[j]) (List.mem_filter.1 (List.getElem_mem hj)).1)
      have hfl := from_len' l.steps (q : Int)
      rw [hpq] at hKp hKf
      generalize hym : ((m + 1 : Nat) : Int) = ym at *
      have HYM := Lib.hid hym
      clear hym
      have hy1 : ym = (m : Int) + 1 := by have := HYM.out; omega
      have hy0 : (0 : Int) < ym := by omega
      have hy41 : ym ≤ 41 := by omega
      have HY1 := Lib.hid hy1
      have HFB := Lib.hid hfb
      have HBN := Lib.hid hbn
      have HFN := Lib.hid (show fromL l.steps (q : Int) = fromL l.steps (q : Int) from rfl)
      clear hy1 hs1 hs1' hs2 hs3 hs4 ha hb hfb hbn han hpq
      obtain ⟨wo, hwo⟩ : ∃ wo, wo = wr := ⟨_, rfl⟩
      subst hwo
      go_wp2_with fail
      refine (l10From_any _ l (q : Int) wo hs (HV.out wo HB1.out)).mono ?_
      rintro er w5 ⟨nv, rfl, hnv, hw5⟩
      have hnl : 1 ≤ (fromL l.steps (q : Int)).length := by omega
      obtain ⟨g5, c5, rfl, hg5, hg5'⟩ := owns_nn hnv hnl
      have HRA := Lib.hid (owns_ra3 hnv (max_of (by omega)))
      have HNV := Lib.hid hnv
      have HB5 := Lib.hid (HB1.out.trans (hw5.mono HB1.out.size))
      have HO5 := Lib.hid (owns_below HO.out hw5 (Nat.le_refl _))
      have HFA5 := Lib.hid (owns_below HFA.out hw5 (Nat.le_refl _))
      have HBX5 := Lib.hid ((hw5.block w.heap.size HWZ.out).trans HBX1.out)
      have HS5 := Lib.hid hw5.size
      have HOL := Lib.hid (fun q hq => (HO.out.lt q hq).2)
      clear hnv hw5 x0 x1 r3
      generalize fromL l.steps (q : Int) = fr at *
      go_wp2_with fail
      go_loopw [11] (fun i wr => ∃ k : Nat, k ≤ K ∧ i = .int .i64 k ∧ Below w5.heap.size w5 wr) (fun i _ => K - (intOf i).toNat)
      case atStart => exact ⟨0, Nat.zero_le _, rfl, Below.refl _ _⟩
      case round =>
        obtain ⟨k, hk, rfl, hbk⟩ := hrel
        have hkl : k < fr.length := by omega
        obtain ⟨fb, fo, fc, e, h0, h1, h2⟩ := (HRA.out.below hbk).at_ (List.getElem?_eq_getElem hkl)
        cases e
        rw [Nat.zero_add] at h0 h1 h2
        obtain ⟨a', b', ha', hb', han', hbn'⟩ := HFRS.out k hkl
        obtain ⟨d0, _⟩ := own_at (owns_below HFA5.out hbk (Nat.le_refl _)) HLF.out hbn'
        obtain ⟨d1, _⟩ := own_at (owns_below HFA5.out hbk (Nat.le_refl _)) HLF.out HQN'.out
        rw [HFQ.out] at d1
        have hkf := fun h => hKf k hkl h
        have hwr : IntKind.i64.wrap (ym - 1) = ym - 1 := IntWalk.i64_in _ (by omega)
        rw [hb'] at h2
        have b4 : (0 : Int) ≤ (k : Int) := by omega
        have b5 : (k : Int) < (fr.length : Int) := by omega
        have b6 : (0 : Int) ≤ (b' : Int) := by omega
        have b7 : (b' : Int) < (l.states.length : Int) := by omega
        have HBK := Lib.hid (fun n => (show Below w5.heap.size w5 (wr.drewN n) from below_drewN' hbk n))
        have hz : atI (farL l g) fr[k].2.2 = (farL l g).getD b' 0 := by rw [hb', atI_nat]
        rw [hz] at hkf
        by_cases hkK : k < K
        · have hne : ((farL l g).getD b' 0 == ym - 1) = false := hkf hkK
          have hne2 : ((farL l g).getD b' 0 != ym - 1) = true := by rw [bne, hne]; rfl
          generalize (farL l g).getD b' 0 = z at *
          clear hbk hkf hz ha' hb' hKf hKp
          go_wp2_with fail
          go_quiet (fail)
          go_wp2_with fail
          go_roundw
          case rel => exact ⟨k + 1, by omega, by go_num, HBK.out _⟩
          case measure => simp [intOf]; omega
        · obtain rfl : k = K := by omega
          have hkp : ((farL l g).getD b' 0 == ym - 1) = true := by rw [← hz, hKs]; exact hKp
          have hkp2 : ((farL l g).getD b' 0 != ym - 1) = false := by rw [bne, hkp]; rfl
          obtain rfl : b' = b := by
            have h := HSE.out
            rw [hKs] at hb'
            rw [h] at hb'
            dsimp only at hb'
            omega
          have hz2 : (farL l g).getD b' 0 = ym - 1 := by simpa using hkp
          have hel : fr[k] = ((a : Int), s.2.1, (b' : Int)) := by rw [hKs]; exact HSE.out
          rw [hel] at h0 h1
          have HKX := Lib.hid (List.getElem?_eq_getElem hkl)
          rw [hel] at HKX
          have HNV5 := Lib.hid (fun n => show (wr.drewN n).ownsRow wo.heap.size 69 3 (.slice (some ⟨g5, 0, none⟩) fr.length c5) fr.length (fr.flatMap tri) from owns_below HNV.out (HBK.out n) (Nat.le_refl _))
          have HO6 := Lib.hid (fun n => show (wr.drewN n).ownsRow (w.heap.size + 1) 69 3 (.slice AO ws.length cO) ws.length (ws.flatMap tri) from owns_below HO5.out (HBK.out n) (Nat.le_refl _))
          have HFA6 := Lib.hid (fun n => show (wr.drewN n).ownsRow w3.heap.size 3 1 (.slice (some ⟨gb, 0, none⟩) l.states.length cb) l.states.length (ints (farL l g)) from owns_below HFA5.out (HBK.out n) (Nat.le_refl _))
          have HB6 := Lib.hid (fun n => below_drewN' (HB5.out.trans (hbk.mono HB5.out.size)) n)
          have HBX6 := Lib.hid (fun n => show (wr.drewN n).heap[w.heap.size]? = some (.cells #[.slice A l.states.length c, .slice B l.steps.length d] 32) from (hbk.block w.heap.size (Array.getElem?_eq_some_iff.1 HBX5.out).1).trans HBX5.out)
          have HSW := Lib.hid (Nat.le_trans HS5.out hbk.size)
          generalize hzz : (farL l g).getD b' 0 = z at *
          have HZZ := Lib.hid hzz
          clear hzz
          clear hbk hkf ha' hb' hKf hKp hz hKs hel
          generalize s.2.1 = s2 at *
          dsimp only at h0 h1
          go_wp2_with fail
          go_quiet (fail)
          go_wp2_with (at_builtin; refine wpList_append_own _ rfl _ _ 23 rfl (w.heap.size + 1) 69 j0 (.agg #[.int .i64 0, .int .i64 0, .int .i64 0]) 3 24 Try.underlying23 hj0 hy0' hy1' hy2' rfl (by decide) _ _ _ rfl ((HO6.out _).alloc _) ⟨wr.heap.size, 0, none⟩ 1 1 (tri ((a : Int), s2, (b' : Int))) rfl rfl ?c1 ?c2 ?c3 ?c4 ?c5 ?_)
          case c1 => exact new_cell3 _ _ _ _ _ rfl
          case c2 => intro u hu; simp [tri] at hu; rcases hu with rfl | rfl | rfl <;> rfl
          case c3 => unfold maxLen; omega
          case c4 => omega
          case c5 => have a1 := HSW.out; have a2 := HWZ.out; show w.heap.size + 1 ≤ (World.alloc _ _).heap.size; simp only [World.size_alloc]; show w.heap.size + 1 ≤ wr.heap.size + 1; omega
          intro v2 w6 hown6 hgrow6 _
          have hfa6 := grown3 ((HFA6.out _).alloc _) hgrow6 (fun g hg => apart3 (HFA6.out 0) (HO6.out 0) (by decide) g hg)
          have hnv6 := grown3 ((HNV5.out _).alloc _) hgrow6 (fun g hg e => by
            have a1 := HOL.out _ e
            have a2 : g5 = g := by simpa [Value.ownBlock] using hg
            omega)
          obtain ⟨_, _, _, ev, h0, h1, h2⟩ := (owns_ra3 hnv6 (max_of (by omega))).at_ HKX.out
          cases ev
          rw [Nat.zero_add] at h0 h1 h2
          dsimp only at h0 h1 h2
          have hln6 : ws.length + 1 = (ws ++ [((a : Int), s2, (b' : Int))]).length := by simp
          have hfl6 : ws.flatMap tri ++ tri ((a : Int), s2, (b' : Int)) = (ws ++ [((a : Int), s2, (b' : Int))]).flatMap tri := by simp
          rw [hln6, hfl6] at hown6
          have HO7 := Lib.hid hown6
          have HFA7 := Lib.hid hfa6
          have hb7 := (HB6.out 0).size
          have HB7 := Lib.hid (((HB6.out _).alloc (HB6.out _).size _).grown hgrow6 ((HB6.out _).alloc (HB6.out _).size _).size (fun q hq => by have := ((HO6.out 0).lt q hq).1; omega))
          have HBX7 := Lib.hid ((hgrow6.block w.heap.size (by simp only [World.size_alloc]; show w.heap.size < wr.heap.size + 1; have := HWZ.out; have := HSW.out; omega) (fun e => by have := ((HO6.out 0).lt _ e.symm).1; omega)).trans ((heap_alloc_old _ _ (by show w.heap.size < wr.heap.size; have := HWZ.out; have := HSW.out; omega)).trans (HBX6.out _)))
          have HSH7 := Lib.hid (show shortL l (ps : Int) g = (ws ++ [((a : Int), s2, (b' : Int))]) ++ wayL l.steps (farL l g) m (b' : Int) by
            rw [HSH.out, HWN.out, HSE.out]
            simp)
          have HD7 := Lib.hid (own_at hfa6 HLF.out HBN.out).1
          clear hown6 hgrow6 hfa6 hnv6 hln6 hfl6 hb7
          go_wp2_with fail
          go_roundw
          case rel => exact ⟨m, b', _, rfl, HBN.out, HZZ.out.trans HFB.out, HSH7.out, HO7.out, HFA7.out, HB7.out, HBX7.out⟩
          case measure =>
            have a1 : farW wo (.int .i64 (q : Int)) gb = m + 1 := by
              have c1 := HR3.out
              unfold farW
              simp only [intOf, Int.toNat_natCast]
              rw [c1]
              have := HYM.out
              simp only []
              omega
            have a2 : farW w6 (.int .i64 (b' : Int)) gb = m := by
              have c2 := HD7.out
              rw [HZZ.out.trans HFB.out] at c2
              unfold farW
              simp only [intOf, Int.toNat_natCast]
              rw [c2]
              simp only [Int.toNat_natCast]
            show farW w6 (.int .i64 (b' : Int)) gb < farW wo (.int .i64 (q : Int)) gb
            omega

end Go.Proofs.Ytlgdmafgbmnjdaa
