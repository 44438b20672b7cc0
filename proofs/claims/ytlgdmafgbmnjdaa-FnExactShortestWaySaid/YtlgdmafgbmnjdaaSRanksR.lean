/- Systems: rankings computed, the reference walked. -/
import Derived.Test.YtlgdmafgbmnjdaaProg
import Derived.Test.YtlgdmafgbmnjdaaSRanksI
import Derived.Test.YtlgdmafgbmnjdaaSRankS
import Derived.Test.YtlgdmafgbmnjdaaUni
set_option linter.unusedVariables false
namespace Go.Proofs.Ytlgdmafgbmnjdaa
open Go.RowKit
open Go.Sort (grow)

def mostR (o nx : List Int) (q : Nat) : Int := (nx.take q).foldl (fun m k => if atI o k < m then m else atI o k) (-1)
theorem mostR_next {o nx : List Int} {q : Nat} (h : q < nx.length) : mostR o nx (q + 1) = if atI o (nx.getD q 0) < mostR o nx q then mostR o nx q else atI o (nx.getD q 0) := by
  unfold mostR
  rw [List.take_succ_eq_append_getElem h, List.foldl_append]
  simp [List.getD, h]
theorem mostR_le {o nx : List Int} {M : Int} (hM : -1 ≤ M) (h : ∀ k, atI o k ≤ M) : ∀ q, q ≤ nx.length → mostR o nx q ≤ M
  | 0, _ => by unfold mostR; simpa using hM
  | q + 1, hq => by
    rw [mostR_next (nx := nx) (q := q) (by omega)]
    have := mostR_le (nx := nx) hM h q (by omega)
    have := h (nx.getD q 0)
    split <;> omega
theorem mostR_ge {o nx : List Int} : ∀ q, q ≤ nx.length → -1 ≤ mostR o nx q
  | 0, _ => by unfold mostR; simp
  | q + 1, hq => by
    rw [mostR_next (nx := nx) (q := q) (by omega)]
    have := mostR_ge (o := o) (nx := nx) q (by omega)
    split <;> omega
theorem mostR_all (o nx : List Int) : mostR o nx nx.length + 1 = rkVal nx o := by unfold mostR rkVal; rw [List.take_length]
theorem rkOf_neg {o nx : List Int} {q : Nat} (hq : q < nx.length) (h : atI o (nx.getD q 0) < 0) : rkOf nx o = -1 := by
  have : negAny nx o = true := by
    rw [← negAny_any]
    unfold anyR
    rw [List.any_eq_true]
    exact ⟨q, List.mem_range.2 hq, by unfold negAt; simpa using h⟩
  unfold rkOf
  rw [this]
  rfl
theorem rkOf_all {o nx : List Int} (h : ∀ j, j < nx.length → negAt o nx j = false) : rkOf nx o = if nx.isEmpty then -1 else rkVal nx o := by
  have : negAny nx o = false := by
    rw [← negAny_any]
    unfold anyR
    rw [List.any_eq_false]
    intro j hj
    rw [h j (List.mem_range.1 hj)]
    exact Bool.false_ne_true
  unfold rkOf
  rw [this]
  rfl
theorem rkOf_le {o nx : List Int} {M : Int} (hM : -1 ≤ M) (h : ∀ k, atI o k ≤ M) : rkOf nx o ≤ M + 1 := by
  unfold rkOf
  split
  · omega
  · split
    · omega
    · exact rkVal_le hM fun k _ => h k
theorem rkInit_le (n : Nat) (g : List Int) (i : Nat) : (rkInit n g).getD i 0 ≤ 0 := by
  by_cases hi : i < n
  · rw [rkInit_at hi]
    split <;> omega
  · rw [getD_ge (rkInit_len n g) (by omega)]
    omega
theorem jacTo_len (ss : List I3) (r : List Int) : ∀ j, (jacTo ss r j).length = r.length
  | 0 => rfl
  | j + 1 => by
    rw [jacTo]
    split
    · rw [List.length_set, jacTo_len ss r j]
    · exact jacTo_len ss r j
theorem ranksR_len (l : Sys) (g : List Int) : ∀ k, (ranksR l g k).length = l.states.length
  | 0 => rkInit_len _ _
  | k + 1 => by rw [ranksR, jacTo_len, ranksR_len l g k]
theorem jacTo_le {ss : List I3} {r : List Int} {M : Int} (hM : -1 ≤ M) (h : ∀ k, atI r k ≤ M) : ∀ (j i : Nat), j ≤ r.length → (jacTo ss r j).getD i 0 ≤ M + 1
  | 0, i, _ => by
    have := h (i : Int)
    unfold atI at this
    rw [Int.toNat_natCast] at this
    show r.getD i 0 ≤ _
    omega
  | j + 1, i, hj => by
    rw [jacTo]
    split
    · rw [getD_set _ _ _ _ (by rw [jacTo_len]; omega)]
      split
      · exact rkOf_le hM h
      · exact jacTo_le hM h j i (by omega)
    · exact jacTo_le hM h j i (by omega)
theorem ranksR_le (l : Sys) (g : List Int) : ∀ (k i : Nat), (ranksR l g k).getD i 0 ≤ k
  | 0, i => rkInit_le _ _ _
  | k + 1, i => by
    rw [ranksR]
    have := jacTo_le (ss := l.steps) (r := ranksR l g k) (M := (k : Int)) (by omega) (fun x => ranksR_le l g k x.toNat) l.states.length i (by rw [ranksR_len]; omega)
    omega

theorem l1Most_any (a b : Int) (w : World) :
    Calls Try.prog 98 #[.int .i64 a, .int .i64 b] w fun e w' => e = .returned (.int .i64 (if b < a then a else b)) ∧ w = w' := by
  by_cases h : b < a
  · rw [if_pos h]
    go_enter Try.func98, Try.ntmps98
    go_wp2
    go_ret
    exact ⟨rfl, rfl⟩
  · rw [if_neg h]
    go_enter Try.func98, Try.ntmps98
    go_wp2
    go_ret
    exact ⟨rfl, rfl⟩

set_option maxRecDepth 100000 in
set_option maxHeartbeats 16000000 in
theorem l10Rank_any (v : Value) (l : Sys) (R : Option Addr) (cr : Nat) (r : List Int) (n : Nat) (i : Nat) (w : World) (hs : SmallSys l) (hgood : goodSys l = true) (hv : RSys w v l) (hn : n = l.states.length) (hl : r.length = n) (hup : ∀ k, atI r k ≤ 1000) (hR : Cells w R (ints r)) :
    Calls Try.prog 80 #[v, .slice R n cr, .int .i64 i] w fun e w' => e = .returned (.int .i64 (rkOf (nextL l.steps i) r)) ∧ Below w.heap.size w w' := by
  have HV := Lib.hid (show ∀ W, Below w.heap.size w W → RSys W v l from fun W hb => hv.below hb)
  have HR := Lib.hid (show ∀ W, Below w.heap.size w W → Cells W R (ints r) from fun W hb => hR.below hb)
  obtain ⟨sv, tv, rfl, hsv, htv⟩ := hv
  obtain ⟨A, c, rfl, _⟩ := hsv.form
  obtain ⟨B, d, rfl, _, _⟩ := htv
  have hsn := hs.1
  have hsn2 := hs.2
  have HST := Lib.hid (show StepsN l.states.length l.steps from good_steps hgood)
  have HUP := Lib.hid hup
  have HL := Lib.hid hl
  have HB := Lib.hid (show Below w.heap.size w (w.alloc (.cells #[.slice A l.states.length c, .slice B l.steps.length d] 32)) from (Below.refl _ _).alloc (Nat.le_refl _) _)
  have HNN := Lib.hid hn
  have hn2 : n ≤ 16777216 := by omega
  clear hsv hR hgood hup hl hn
  go_enter Try.func80, Try.ntmps80
  go_wp2_with fail
  refine (l10From_any _ l (i : Int) _ hs (HV.out _ HB.out)).mono ?_
  rintro e w3 ⟨nv, rfl, hnv, hw3⟩
  obtain ⟨NA, nc, rfl, hnv⟩ := owns_form hnv
  have hfl := from_len' l.steps (i : Int)
  have HRA := Lib.hid (owns_ra3 hnv (max_of (by omega)))
  have HB3 := Lib.hid (HB.out.trans (hw3.mono HB.out.size))
  have HNX := Lib.hid (fun q (hq : q < (nextL l.steps (i : Int)).length) => next_is HST.out hq)
  have HFL := Lib.hid (from_len_next l.steps (i : Int))
  have HFA := Lib.hid (fun q h => from_at l.steps (i : Int) (q := q) h)
  clear hnv hw3
  generalize hnx : nextL l.steps (i : Int) = nx at *
  have HNE := Lib.hid hnx
  clear hnx
  generalize fromL l.steps (i : Int) = fr at *
  go_wp2_with fail
  go_loopw [8, 9] (fun m i wi => ∃ q : Nat, q ≤ fr.length ∧ i = .int .i64 q ∧ m = .int .i64 (mostR r nx q) ∧ (∀ j, j < q → negAt r nx j = false) ∧ Below w3.heap.size w3 wi)
    (fun _ i _ => fr.length - (intOf i).toNat)
  case atStart => exact ⟨0, Nat.zero_le _, rfl, rfl, fun j hj => by omega, Below.refl _ _⟩
  case round =>
    obtain ⟨q, hq, rfl, rfl, hall, hbq⟩ := hrel
    have HALL := Lib.hid hall
    have hmg := mostR_ge (o := r) (nx := nx) q (by have := HFL.out; omega)
    have hml := mostR_le (o := r) (nx := nx) (M := 1000) (by omega) HUP.out q (by have := HFL.out; omega)
    clear hall
    by_cases hqt : q < fr.length
    · obtain ⟨fb, fo, fc, e, h0, h1, h2⟩ := (HRA.out.below hbq).at_ (List.getElem?_eq_getElem hqt)
      cases e
      have hqn : q < nx.length := by rw [← HFL.out]; exact hqt
      obtain ⟨j, ej, hj⟩ := HNX.out q hqn
      have hzl := HUP.out (nx.getD q 0)
      have HMN := Lib.hid (mostR_next (o := r) hqn)
      have HNEG := Lib.hid (fun h => rkOf_neg (o := r) hqn h)
      have HNA := Lib.hid (show negAt r nx q = decide (atI r (nx.getD q 0) < 0) from rfl)
      have hat : atI r (nx.getD q 0) = r.getD j 0 := by rw [ej]; unfold atI; rw [Int.toNat_natCast]
      rw [HFA.out q hqt, ej] at h2
      have hjr : j < r.length := by have := HL.out; have := HNN.out; omega
      obtain ⟨rb', ro', e, hc⟩ := (HR.out _ (HB3.out.trans (hbq.mono HB3.out.size))).int hjr
      cases e
      have cj := hc j hjr
      rw [← hat] at cj
      generalize atI r (nx.getD q 0) = z at *
      generalize mostR r nx q = m at *
      have b4 : (0 : Int) ≤ (j : Int) := by omega
      have b5 : (j : Int) < (n : Int) := by have := HNN.out; omega
      have b6 : (0 : Int) ≤ (q : Int) := by omega
      have b7 : (q : Int) < (fr.length : Int) := by omega
      have HBQ := Lib.hid hbq
      clear hc h0 h1 hbq hat ej
      by_cases hz : z < 0
      · have HF := Lib.hid (HNEG.out hz)
        go_wp2_with fail
        go_ret
        exact ⟨by rw [HNE.out, HF.out]; rfl, HB3.out.trans (HBQ.out.mono HB3.out.size)⟩
      · have HN2 := Lib.hid (none_next HALL.out (show negAt r nx q = false by rw [HNA.out, decide_eq_false hz]))
        go_wp2_with fail
        refine (l1Most_any m z wr).mono ?_
        rintro e w5 ⟨rfl, rfl⟩
        go_wp2_with fail
        go_roundw
        case rel => exact ⟨q + 1, by omega, by go_num, by rw [HMN.out], HN2.out, HBQ.out⟩
        case measure => simp [intOf]; omega
    · obtain rfl : q = fr.length := by omega
      have hfl2 := HFL.out
      have HRK := Lib.hid (rkOf_all (o := r) (nx := nx) (fun j hj => HALL.out j (by rw [HFL.out]; exact hj)))
      have HMA := Lib.hid (show mostR r nx fr.length + 1 = rkVal nx r by rw [HFL.out]; exact mostR_all r nx)
      have HB4 := Lib.hid (HB3.out.trans (hbq.mono HB3.out.size))
      clear hbq
      by_cases hf0 : fr.length = 0
      · have HF := Lib.hid (show rkOf nx r = -1 by
          have : nx = [] := List.eq_nil_of_length_eq_zero (by rw [← HFL.out]; exact hf0)
          rw [HRK.out, this]; rfl)
        have hf1 : ((fr.length : Int) == 0) = true := by rw [hf0]; rfl
        clear hf0 hfl2
        go_wp2_with fail
        go_ret
        exact ⟨by rw [HNE.out, HF.out]; rfl, HB4.out⟩
      · have HF := Lib.hid (show rkOf nx r = mostR r nx fr.length + 1 by
          have : nx.isEmpty = false := by
            cases nx with
            | nil => exact absurd HFL.out hf0
            | cons a b => rfl
          rw [HRK.out, this, HMA.out]; rfl)
        have hf1 : ((fr.length : Int) == 0) = false := by rw [beq_eq_false_iff_ne]; omega
        clear hf0 hfl2
        go_wp2_with fail
        go_ret
        exact ⟨by rw [HNE.out, HF.out]; rfl, HB4.out⟩

theorem rkInit_take {n : Nat} {g : List Int} {k : Nat} (hk : k < n) : (rkInit n g).take (k + 1) = (rkInit n g).take k ++ [if hasI g (k : Int) then 0 else -1] := by
  have h : k < (rkInit n g).length := by rw [rkInit_len]; exact hk
  rw [List.take_succ_eq_append_getElem h]
  congr 2
  have := rkInit_at (g := g) hk
  simpa [List.getD, h] using this
theorem jacTo_next (ss : List I3) (r : List Int) (j : Nat) : jacTo ss r (j + 1) = if r.getD j 0 < 0 then (jacTo ss r j).set j (rkOf (nextL ss (j : Int)) r) else jacTo ss r j := rfl
theorem owns_nn {w : World} {B : Nat} {e : TypeId} {s : Nat} {v : Value} {n : Nat} {xs : List Value} (h : w.ownsRow B e s v n xs) (hn : 1 ≤ n) : ∃ g c, v = .slice (some ⟨g, 0, none⟩) n c ∧ B ≤ g ∧ g < w.heap.size := by
  rcases h.2 with ⟨rfl, rfl⟩ | ⟨g, cap, cur, rfl, _⟩
  · omega
  · have := h.lt g rfl
    exact ⟨g, cap, rfl, this.1, this.2⟩
theorem own_at {W : World} {B1 g n c : Nat} {o : List Int} (h : W.ownsRow B1 3 1 (.slice (some ⟨g, 0, none⟩) n c) n (ints o)) (hl : o.length = n) {k : Nat} (hk : k < n) : W.cell? ⟨g, k, none⟩ = some (.int .i64 (o.getD k 0)) ∧ W.frozen? ⟨g, k, none⟩ = false := by
  have hcell := h.cellAt k (by omega)
  rw [getElem?_ints _ _ (by rw [hl]; exact hk)] at hcell
  exact ⟨hcell, h.frozenAt k⟩
theorem own_set {W : World} {B1 g n c : Nat} {o : List Int} (h : W.ownsRow B1 3 1 (.slice (some ⟨g, 0, none⟩) n c) n (ints o)) {k : Nat} (hk : k < n) (y : Int) : (W.setCell ⟨g, k, none⟩ (.int .i64 y)).ownsRow B1 3 1 (.slice (some ⟨g, 0, none⟩) n c) n (ints (o.set k y)) := by
  have hst := (h.stored k (.int .i64 y)).1
  have e2 : (ints o).set k (.int .i64 y) = ints (o.set k y) := by simp [ints, List.map_set]
  rwa [e2] at hst

set_option maxRecDepth 100000 in
set_option maxHeartbeats 16000000 in
theorem l10Ranks_any (v : Value) (l : Sys) (G : Option Addr) (cg : Nat) (g : List Int) (w : World) (hs : SmallSys l) (hgood : goodSys l = true) (hv : RSys w v l) (hgn : g.length ≤ 16777216) (hG : Cells w G (ints g)) :
    Calls Try.prog 57 #[v, .slice G g.length cg] w fun e w' => ∃ r, e = .returned r ∧ w'.ownsRow w.heap.size 3 1 r (ranksL l g).length (ints (ranksL l g)) ∧ Below w.heap.size w w' := by
  obtain ⟨i0, hi, hz0, hz1, hz2⟩ := info_parts info_ni
  have HV := Lib.hid (show ∀ W, Below w.heap.size w W → RSys W v l from fun W hb => hv.below hb)
  have HG := Lib.hid (show ∀ W, Below w.heap.size w W → Cells W G (ints g) from fun W hb => hG.below hb)
  obtain ⟨sv, tv, rfl, hsv, htv⟩ := hv
  obtain ⟨A, c, rfl, _⟩ := hsv.form
  obtain ⟨B, d, rfl, _, _⟩ := htv
  have hsn := hs.1
  have hsn2 := hs.2
  obtain ⟨l1, l2⟩ := good_len hgood
  have HGD := Lib.hid hgood
  have HRL := Lib.hid (show ranksL l g = ranksR l g l.states.length from rfl)
  have HRN := Lib.hid (fun k => show ranksR l g (k + 1) = jacTo l.steps (ranksR l g k) l.states.length from rfl)
  have HLE := Lib.hid (fun k => ranksR_len l g k)
  have HUP := Lib.hid (fun k i => ranksR_le l g k i)
  have HIT := Lib.hid (fun k (hk : k < l.states.length) => rkInit_take (g := g) hk)
  have HIL := Lib.hid (rkInit_len l.states.length g)
  have HI0 := Lib.hid (show ranksR l g 0 = rkInit l.states.length g from rfl)
  clear hsv hG hgood
  have hbox := heap_alloc_new w (.cells #[.slice A l.states.length c, .slice B l.steps.length d] 32)
  have HBX := Lib.hid ((heap_alloc_old (w.alloc (.cells #[.slice A l.states.length c, .slice B l.steps.length d] 32)) (.cells #[] 3) (by simp)).trans hbox)
  have HB := Lib.hid (show Below w.heap.size w ((w.alloc (.cells #[.slice A l.states.length c, .slice B l.steps.length d] 32)).alloc (.cells #[] 3)) from ((Below.refl _ _).alloc (Nat.le_refl _) _).alloc (by simp) _)
  have hown := owns_zero (w.alloc (.cells #[.slice A l.states.length c, .slice B l.steps.length d] 32)) 3
  rw [World.size_alloc] at hown
  have HO := Lib.hid hown
  clear hbox hown
  go_enter Try.func57, Try.ntmps57
  go_wp2_with fail
  go_loopw [5, 6] (fun u i wr => ∃ k : Nat, k ≤ l.states.length ∧ i = .int .i64 k ∧ wr.ownsRow (w.heap.size + 1) 3 1 u k (ints ((rkInit l.states.length g).take k)) ∧ Below w.heap.size w wr ∧ wr.heap[w.heap.size]? = some (.cells #[.slice A l.states.length c, .slice B l.steps.length d] 32))
    (fun _ i _ => l.states.length - (intOf i).toNat)
  case atStart => exact ⟨0, Nat.zero_le _, rfl, HO.out, HB.out, HBX.out⟩
  case round =>
    clear HO HB HBX
    obtain ⟨k, hk, rfl, hown, hbel, hbx⟩ := hrel
    obtain ⟨AO, cO, rfl, hown⟩ := owns_form hown
    have p0 := cell_of_row wr w.heap.size 0 _ _ _ hbx
    have p1 := cell_of_row wr w.heap.size 1 _ _ _ hbx
    have HO := Lib.hid hown
    have HB := Lib.hid hbel
    have HBX := Lib.hid hbx
    have hwz : w.heap.size < wr.heap.size := (Array.getElem?_eq_some_iff.1 hbx).1
    have HWZ := Lib.hid hwz
    clear hown hbel hbx
    by_cases hlt : k < l.states.length
    · have HTK := Lib.hid (HIT.out k hlt)
      have hltk : ((rkInit l.states.length g).take k).length = k := by rw [List.length_take, HIL.out]; omega
      have HLT := Lib.hid hltk
      clear hltk p1
      generalize (rkInit l.states.length g).take k = tk at *
      go_wp2_with (at_builtin; refine wpList_append_own _ rfl _ _ 26 rfl (w.heap.size + 1) 3 i0 (.int .i64 0) 1 8 Try.underlying26 hi hz0 hz1 hz2 rfl (by decide) _ _ _ rfl (HO.out.alloc _) ⟨wr.heap.size, 0, none⟩ 1 1 [.int .i64 (-1)] rfl rfl ?c1 ?c2 ?c3 ?c4 ?c5 ?_)
      case c1 => exact new_cell1 _ _ _ rfl
      case c2 => intro u hu; simp at hu; subst hu; rfl
      case c3 => unfold maxLen; omega
      case c4 => omega
      case c5 => simp; omega
      intro v2 w2 hown2 hgrow2 _
      have hints : ints tk ++ [.int .i64 (-1)] = ints (tk ++ [-1]) := by simp [ints]
      rw [hints] at hown2
      obtain ⟨g2, c2, rfl, hg2, hg2'⟩ := owns_nn hown2 (by omega)
      have HO2 := Lib.hid hown2
      have HB2 := Lib.hid ((HB.out.alloc HB.out.size _).grown hgrow2 (by simp; omega) (fun q hq => by have := (HO.out.lt q hq).1; omega))
      have HBX2 := Lib.hid ((hgrow2.block w.heap.size (by simp; omega) (fun e => by have := (HO.out.lt _ e.symm).1; omega)).trans ((heap_alloc_old _ _ HWZ.out).trans HBX.out))
      have hl2 : (tk ++ [(-1 : Int)]).length = k + 1 := by rw [List.length_append, HLT.out]; rfl
      obtain ⟨d0, d1⟩ := own_at hown2 hl2 (Nat.lt_succ_self k)
      have hdk : (tk ++ [(-1 : Int)]).getD k 0 = -1 := by
        have := HLT.out
        simp [List.getD, ← this]
      rw [hdk] at d0
      have HST := Lib.hid (own_set hown2 (Nat.lt_succ_self k) 0)
      have HSV := Lib.hid (show (tk ++ [(-1 : Int)]).set k 0 = tk ++ [0] by rw [← HLT.out, List.set_append_right _ _ (Nat.le_refl _), Nat.sub_self]; rfl)
      clear hown2 hgrow2 hints hl2 hdk p0
      have b0 : (0 : Int) ≤ (k : Int) := by omega
      have b1 : (k : Int) < ((k + 1 : Nat) : Int) := by omega
      have b2 : (k : Int) < (k : Int) + 1 := by omega
      have HH := Lib.hid (l1Has_any G cg g (k : Int) w2 hgn (HG.out _ HB2.out))
      cases hh : hasI g (k : Int)
      · rw [hh, if_neg Bool.false_ne_true] at HTK
        rw [hh] at HH
        clear hh
        go_wp2_with ((with_reducible refine HH.out.mono ?_); rintro er w4 ⟨rfl, rfl⟩)
        go_roundw
        case rel => exact ⟨k + 1, by omega, by go_num, by rw [HTK.out]; exact HO2.out, HB2.out, HBX2.out⟩
        case measure => simp [intOf]; omega
      · rw [hh, if_pos rfl] at HTK
        rw [hh] at HH
        clear hh
        rw [HSV.out] at HST
        have HB3 := Lib.hid (HB2.out.setCell (p := ⟨g2, k, none⟩) (by show w.heap.size ≤ g2; omega) (.int .i64 0))
        have HBX3 := Lib.hid ((heap_setCell_other w2 ⟨g2, k, none⟩ w.heap.size (.int .i64 0) (by dsimp only; omega)).trans HBX2.out)
        go_wp2_with ((with_reducible refine HH.out.mono ?_); rintro er w4 ⟨rfl, rfl⟩)
        go_roundw
        case rel => exact ⟨k + 1, by omega, by go_num, by rw [HTK.out]; exact HST.out, HB3.out, HBX3.out⟩
        case measure => simp [intOf]; omega
    · obtain rfl : k = l.states.length := by omega
      rw [List.take_of_length_le (by rw [HIL.out]; exact Nat.le_refl _)] at HO
      go_wp2_with fail
      clear p0 p1
      go_loopw [5, 7] (fun u i wr => ∃ (k gb cb : Nat), k ≤ l.states.length ∧ i = .int .i64 k ∧ u = .slice (some ⟨gb, 0, none⟩) l.states.length cb ∧ wr.ownsRow (w.heap.size + 1) 3 1 (.slice (some ⟨gb, 0, none⟩) l.states.length cb) l.states.length (ints (ranksR l g k)) ∧ Below w.heap.size w wr ∧ wr.heap[w.heap.size]? = some (.cells #[.slice A l.states.length c, .slice B l.steps.length d] 32))
        (fun _ i _ => l.states.length - (intOf i).toNat)
      case atStart =>
        obtain ⟨gb, cb, e, _⟩ := owns_nn HO.out l1
        have h := HO.out
        rw [e] at h ⊢
        exact ⟨0, gb, cb, Nat.zero_le _, rfl, rfl, by rw [HI0.out]; exact h, HB.out, HBX.out⟩
      case round =>
        clear HO HB HBX HWZ hwz
        obtain ⟨k, gb, cb, hk, rfl, rfl, hown, hbel, hbx⟩ := hrel
        have HO := Lib.hid hown
        have HB := Lib.hid hbel
        have HBX := Lib.hid hbx
        have HWZ := Lib.hid (show w.heap.size < wr.heap.size from (Array.getElem?_eq_some_iff.1 hbx).1)
        have HGB := Lib.hid (hown.lt gb rfl)
        have p0 := cell_of_row wr w.heap.size 0 _ _ _ hbx
        have p1 := cell_of_row wr w.heap.size 1 _ _ _ hbx
        clear hown hbel hbx
        obtain ⟨wo, hwo⟩ : ∃ wo, wo = wr := ⟨_, rfl⟩
        subst hwo
        by_cases hlt : k < l.states.length
        · have HL0 := Lib.hid (HLE.out k)
          have HU0 := Lib.hid (HUP.out k)
          have HN0 := Lib.hid (HRN.out k)
          clear p1
          generalize hr : ranksR l g k = r at *
          clear hr
          have HOW := Lib.hid (by have := l1Own_any (some ⟨gb, 0, none⟩) cb r wo (by have := HL0.out; omega) (Cells.of_owns HO.out); rw [HL0.out] at this; exact this)
          go_wp2_with fail
          refine HOW.out.mono ?_
          rintro e w3 ⟨u3, rfl, hu3, hw3⟩
          obtain ⟨g3, c3, rfl, hg3, hg3'⟩ := owns_nn hu3 l1
          have HO3 := Lib.hid (owns_below HO.out hw3 (Nat.le_refl _))
          have HN3 := Lib.hid hu3
          have HB3 := Lib.hid (HB.out.trans (hw3.mono HB.out.size))
          have HBX3 := Lib.hid ((hw3.block w.heap.size HWZ.out).trans HBX.out)
          clear hu3 hw3 p0
          go_wp2_with fail
          go_loopw [9] (fun i wr => ∃ j : Nat, j ≤ l.states.length ∧ i = .int .i64 j ∧ wr.ownsRow (w.heap.size + 1) 3 1 (.slice (some ⟨gb, 0, none⟩) l.states.length cb) l.states.length (ints r) ∧ wr.ownsRow wo.heap.size 3 1 (.slice (some ⟨g3, 0, none⟩) l.states.length c3) l.states.length (ints (jacTo l.steps r j)) ∧ Below w.heap.size w wr ∧ wr.heap[w.heap.size]? = some (.cells #[.slice A l.states.length c, .slice B l.steps.length d] 32))
            (fun i _ => l.states.length - (intOf i).toNat)
          case atStart => exact ⟨0, Nat.zero_le _, rfl, HO3.out, HN3.out, HB3.out, HBX3.out⟩
          case round =>
            clear HO3 HN3 HB3 HBX3
            obtain ⟨j, hj, rfl, hor, hoj, hbel, hbx⟩ := hrel
            have HOR := Lib.hid hor
            have HOJ := Lib.hid hoj
            have HB3 := Lib.hid hbel
            have HBX3 := Lib.hid hbx
            have p0 := cell_of_row wr w.heap.size 0 _ _ _ hbx
            have p1 := cell_of_row wr w.heap.size 1 _ _ _ hbx
            clear hor hoj hbel hbx
            by_cases hjl : j < l.states.length
            · obtain ⟨d0, _⟩ := own_at HOR.out HL0.out hjl
              have HJN := Lib.hid (jacTo_next l.steps r j)
              have b0 : (0 : Int) ≤ (j : Int) := by omega
              have b1 : (j : Int) < (l.states.length : Int) := by omega
              have HRK := Lib.hid (fun W hW hc => l10Rank_any _ l (some ⟨gb, 0, none⟩) cb r l.states.length j W hs HGD.out (HV.out W hW) rfl HL0.out (fun x => by have := HU0.out x.toNat; unfold atI; omega) hc)
              have HJL := Lib.hid (jacTo_len l.steps r j)
              generalize r.getD j 0 = y at *
              by_cases hy : y < 0
              · rw [if_pos hy] at HJN
                go_wp2_with fail
                refine (HRK.out wr HB3.out (Cells.of_owns HOR.out)).mono ?_
                rintro e w4 ⟨rfl, hw4⟩
                have HOR4 := Lib.hid (owns_below HOR.out hw4 (Nat.le_refl _))
                have hoj4 := owns_below HOJ.out hw4 (Nat.le_refl _)
                have HB4 := Lib.hid (HB3.out.trans (hw4.mono HB3.out.size))
                have HBX4 := Lib.hid ((hw4.block w.heap.size (Array.getElem?_eq_some_iff.1 HBX3.out).1).trans HBX3.out)
                clear hw4 p0 p1 d0
                obtain ⟨f0, f1⟩ := own_at hoj4 (by rw [HJL.out]; exact HL0.out) hjl
                generalize rkOf (nextL l.steps (j : Int)) r = rk at *
                have HSJ := Lib.hid (own_set hoj4 hjl rk)
                have HSR := Lib.hid (owns_other (p := ⟨g3, j, none⟩) (u := .int .i64 rk) HOR4.out (by have := HGB.out; dsimp only; omega))
                have HB5 := Lib.hid (HB4.out.setCell (p := ⟨g3, j, none⟩) (by have := HGB.out; show w.heap.size ≤ g3; omega) (.int .i64 rk))
                have HBX5 := Lib.hid ((heap_setCell_other w4 ⟨g3, j, none⟩ w.heap.size (.int .i64 rk) (by have := HGB.out; dsimp only; omega)).trans HBX4.out)
                generalize (jacTo l.steps r j).getD j 0 = old at *
                clear hoj4
                go_wp2_with fail
                go_roundw
                case rel => exact ⟨j + 1, by omega, by go_num, HSR.out, by rw [HJN.out]; exact HSJ.out, HB5.out, HBX5.out⟩
                case measure => simp [intOf]; omega
              · rw [if_neg hy] at HJN
                go_wp2_with fail
                go_roundw
                case rel => exact ⟨j + 1, by omega, by go_num, HOR.out, by rw [HJN.out]; exact HOJ.out, HB3.out, HBX3.out⟩
                case measure => simp [intOf]; omega
            · obtain rfl : j = l.states.length := by omega
              have HE := Lib.hid (owns_mono HOJ.out (show w.heap.size + 1 ≤ wo.heap.size from HWZ.out))
              go_wp2_with fail
              go_roundw
              case rel => exact ⟨k + 1, g3, c3, by omega, by go_num, rfl, by rw [HN0.out]; exact HE.out, HB3.out, HBX3.out⟩
              case measure => simp [intOf]; omega
        · obtain rfl : k = l.states.length := by omega
          have HR := Lib.hid (owns_mono HO.out (Nat.le_succ w.heap.size))
          rw [← HRL.out] at HR
          have HLL := Lib.hid (show (ranksL l g).length = l.states.length by rw [HRL.out]; exact HLE.out _)
          go_wp2_with fail
          go_ret
          refine ⟨_, rfl, ?_, HB.out⟩
          rw [HLL.out]
          exact HR.out

set_option maxRecDepth 100000 in
set_option maxHeartbeats 4000000 in
theorem specRanksOf_any (v u1 : Value) (l : Sys) (g : List Int) (w : World) (hs : SmallSys l) (hv : RSys w v l) (hgn : g.length ≤ 16777216) (hg1 : RI w u1 g) :
    Calls Try.prog 23 #[v, u1] w fun e w' => ∃ r, e = .returned (.tuple #[r, .bool (okGoals l g)]) ∧ w'.ownsRow w.heap.size 3 1 r (rksL l g).length (ints (rksL l g)) ∧ Below w.heap.size w w' := by
  have HV := Lib.hid (show ∀ W, Below w.heap.size w W → RSys W v l from fun W hb => hv.below hb)
  obtain ⟨G, cg, rfl, _, hG⟩ := hg1
  have HG := Lib.hid (show ∀ W, Below w.heap.size w W → Cells W G (ints g) from fun W hb => hG.below hb)
  obtain ⟨sv, tv, rfl, hsv, htv⟩ := hv
  obtain ⟨A, c, rfl, _⟩ := hsv.form
  obtain ⟨B, d, rfl, _, _⟩ := htv
  have hb1 : ∀ o, Below w.heap.size w (w.alloc o) := fun o => (Below.refl _ _).alloc (Nat.le_refl _) o
  have HB := Lib.hid hb1
  have H1 := Lib.hid (fun o => l10Good_any _ l (w.alloc o) hs (HV.out _ (hb1 o)))
  clear hsv hG hb1
  cases hg : goodSys l
  · have E2 := Lib.hid (show okGoals l g = false by simp [okGoals, hg])
    have E1 := Lib.hid (show rksL l g = [] by unfold rksL; rw [E2.out]; rfl)
    rw [hg] at H1
    clear hg
    go_enter Try.func23, Try.ntmps23
    go_wp2_with fail
    refine (H1.out _).mono ?_
    rintro e w1 ⟨rfl, hw1⟩
    have hz := (HB.out _).trans (hw1.mono (HB.out _).size)
    have HO := Lib.hid (owns_mono (owns_zero w1 3) hz.size)
    have HZ := Lib.hid (hz.alloc hz.size (.cells #[] 3))
    clear hw1 hz
    go_wp2_with fail
    go_ret2
    rw [E1.out, E2.out]
    exact ⟨_, rfl, HO.out, HZ.out⟩
  have HGD := Lib.hid hg
  rw [hg] at H1
  cases hgo : goalsB l g
  · have E2 := Lib.hid (show okGoals l g = false by simp [okGoals, hgo])
    have E1 := Lib.hid (show rksL l g = [] by unfold rksL; rw [E2.out]; rfl)
    clear hg
    go_enter Try.func23, Try.ntmps23
    go_wp2_with fail
    refine (H1.out _).mono ?_
    rintro e w1 ⟨rfl, hw1⟩
    have hz1 := (HB.out _).trans (hw1.mono (HB.out _).size)
    obtain ⟨bx, _⟩ := one_box hw1
    have x0 : w1.cell? ⟨w.heap.size, 0, none⟩ = some (.slice A l.states.length c) := cell_of_row _ _ _ _ _ _ bx
    have x1 : w1.cell? ⟨w.heap.size, 1, none⟩ = some (.slice B l.steps.length d) := cell_of_row _ _ _ _ _ _ bx
    have HZ1 := Lib.hid hz1
    clear hw1 bx hz1
    go_wp2_with fail
    refine (l10Goals_any _ l G cg g w1 hs (HV.out w1 HZ1.out) hgn (HG.out w1 HZ1.out)).mono ?_
    rintro e w2 ⟨rfl, hw2⟩
    rw [hgo]
    have hz := HZ1.out.trans (hw2.mono HZ1.out.size)
    have HO := Lib.hid (owns_mono (owns_zero w2 3) hz.size)
    have HZ2 := Lib.hid (hz.alloc hz.size (.cells #[] 3))
    clear hw2 x0 x1 hz
    go_wp2_with fail
    go_ret2
    rw [E1.out, E2.out]
    exact ⟨_, rfl, HO.out, HZ2.out⟩
  have E2 := Lib.hid (show okGoals l g = true by simp [okGoals, hg, hgo])
  have E1 := Lib.hid (show rksL l g = ranksL l g by unfold rksL; rw [if_pos E2.out])
  clear hg
  go_enter Try.func23, Try.ntmps23
  go_wp2_with fail
  refine (H1.out _).mono ?_
  rintro e w1 ⟨rfl, hw1⟩
  have hz1 := (HB.out _).trans (hw1.mono (HB.out _).size)
  obtain ⟨bx, _⟩ := one_box hw1
  have x0 : w1.cell? ⟨w.heap.size, 0, none⟩ = some (.slice A l.states.length c) := cell_of_row _ _ _ _ _ _ bx
  have x1 : w1.cell? ⟨w.heap.size, 1, none⟩ = some (.slice B l.steps.length d) := cell_of_row _ _ _ _ _ _ bx
  have HZ1 := Lib.hid hz1
  clear hw1 bx hz1
  go_wp2_with fail
  refine (l10Goals_any _ l G cg g w1 hs (HV.out w1 HZ1.out) hgn (HG.out w1 HZ1.out)).mono ?_
  rintro e w2 ⟨rfl, hw2⟩
  rw [hgo]
  have x0 := cell_below hw2 x0 (lt_of_cell x0)
  have x1 := cell_below hw2 x1 (lt_of_cell x1)
  have HZ2 := Lib.hid (HZ1.out.trans (hw2.mono HZ1.out.size))
  clear hw2
  go_wp2_with fail
  refine (l10Ranks_any _ l G cg g w2 hs HGD.out (HV.out w2 HZ2.out) hgn (HG.out w2 HZ2.out)).mono ?_
  rintro e w3 ⟨r, rfl, hr, hw3⟩
  have HR := Lib.hid (owns_mono hr HZ2.out.size)
  have HZ3 := Lib.hid (HZ2.out.trans (hw3.mono HZ2.out.size))
  clear hr hw3 x0 x1
  rw [← E1.out] at HR
  go_wp2_with fail
  go_ret2
  rw [E2.out]
  exact ⟨_, rfl, HR.out, HZ3.out⟩

end Go.Proofs.Ytlgdmafgbmnjdaa
