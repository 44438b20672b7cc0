/- Systems: rankings computed, the program walked. -/
import Derived.Test.YtlgdmafgbmnjdaaProg
import Derived.Test.YtlgdmafgbmnjdaaSGoal
import Derived.Test.YtlgdmafgbmnjdaaSFrom
import Derived.Test.YtlgdmafgbmnjdaaSRankN
import Derived.Test.YtlgdmafgbmnjdaaSRank
import Derived.Test.YtlgdmafgbmnjdaaKeptCell
import Derived.Test.YtlgdmafgbmnjdaaSCountW
import Derived.Test.YtlgdmafgbmnjdaaRepeat
set_option linter.unusedVariables false
namespace Go.Proofs.Ytlgdmafgbmnjdaa
open Go.RowKit
open Go.Sort (grow)

def rksL (l : Sys) (g : List Int) : List Int := if okGoals l g then ranksL l g else []
theorem okGoals_of {l : Sys} {g : List Int} (h : okGoals l g = true) : goodSys l = true ∧ g.Pairwise (· < ·) ∧ InN l.states.length g := by
  unfold okGoals at h
  rw [Bool.and_eq_true] at h
  have := goals_of h.2
  exact ⟨h.1, this.1, this.2⟩
theorem rks_len {l : Sys} (hs : SmallSys l) (g : List Int) : (rksL l g).length ≤ 16777216 := by
  unfold rksL
  split
  · rename_i h
    rw [(ranksL_rk (g := g) (good_steps (okGoals_of h).1)).len]
    exact hs.1
  · simp

theorem owns_set_low {w : World} {B : Nat} {e : TypeId} {s : Nat} {v : Value} {n : Nat} {xs : List Value} {p : Addr} {u : Value} (h : w.ownsRow B e s v n xs) (hlt : p.block < B) : (w.setCell p u).ownsRow B e s v n xs := by
  refine ⟨h.1, ?_⟩
  rcases h.2 with hn | ⟨g', cap, cur, e', hbg, hgg, rest⟩
  · exact .inl hn
  · exact .inr ⟨g', cap, cur, e', hbg, by rw [heap_setCell_other _ _ _ _ (by omega)]; exact hgg, rest⟩

/-- The list of numbers in memory, behind a captured variable. -/
structure OutW (w W : World) (ob pb : Obj) (P B1 g n c : Nat) (o : List Int) : Prop where
  row : W.ownsRow B1 3 1 (.slice (some ⟨g, 0, none⟩) n c) n (ints o)
  len : o.length = n
  cell : W.heap[P]? = some pb
  box : W.heap[w.heap.size]? = some ob
  below : Below w.heap.size w W
section
variable {w W W' : World} {ob pb : Obj} {P B1 g n c : Nat} {o : List Int}
theorem OutW.at_ (h : OutW w W ob pb P B1 g n c o) {k : Nat} (hk : k < n) : W.cell? ⟨g, k, none⟩ = some (.int .i64 (o.getD k 0)) ∧ W.frozen? ⟨g, k, none⟩ = false := by
  have hcell := h.row.cellAt k (by omega)
  rw [getElem?_ints _ _ (by rw [h.len]; exact hk)] at hcell
  exact ⟨hcell, h.row.frozenAt k⟩
theorem OutW.set (h : OutW w W ob pb P B1 g n c o) {k : Nat} (hk : k < n) (hP : g ≠ P) (hB : w.heap.size < B1) (y : Int) : OutW w (W.setCell ⟨g, k, none⟩ (.int .i64 y)) ob pb P B1 g n c (o.set k y) := by
  have hg := (h.row.lt g rfl).1
  refine ⟨?_, by rw [List.length_set]; exact h.len, (heap_setCell_other _ _ _ _ (fun e => hP e.symm)).trans h.cell, (heap_setCell_other _ _ _ _ (by dsimp only; omega)).trans h.box, h.below.setCell (p := ⟨g, k, none⟩) (by show w.heap.size ≤ g; omega) _⟩
  have hst := (h.row.stored k (.int .i64 y)).1
  have e2 : (ints o).set k (.int .i64 y) = ints (o.set k y) := by simp [ints, List.map_set]
  rwa [e2] at hst
theorem OutW.mono (h : OutW w W ob pb P B1 g n c o) (hb : Below W.heap.size W W') : OutW w W' ob pb P B1 g n c o :=
  ⟨owns_below h.row hb (Nat.le_refl _), h.len, (hb.block _ (Array.getElem?_eq_some_iff.1 h.cell).1).trans h.cell, (hb.block _ (Array.getElem?_eq_some_iff.1 h.box).1).trans h.box, h.below.trans (hb.mono h.below.size)⟩
theorem OutW.cells (h : OutW w W ob pb P B1 g n c o) : Cells W (some ⟨g, 0, none⟩) (ints o) := Cells.of_owns h.row
end

/-- How many numbers of a row are below nought. -/
def negW (W : World) (g n : Nat) : Nat := ((List.range n).filter fun j => match W.cell? ⟨g, j, none⟩ with | some (.int _ x) => decide (x < 0) | _ => false).length
theorem negW_eq {W : World} {g n : Nat} {o : List Int} (hl : o.length = n) (h : ∀ j, j < n → W.cell? ⟨g, j, none⟩ = some (.int .i64 (o.getD j 0))) : negW W g n = negs o := by
  have ho : o = (List.range n).map (fun j => o.getD j 0) := by
    refine list_getD hl (by simp) fun i hi => ?_
    simp [List.getD, hi]
  unfold negW negs
  conv => rhs; rw [ho, List.filter_map, List.length_map]
  congr 1
  refine List.filter_congr fun j hj => ?_
  rw [h j (List.mem_range.1 hj)]
  rfl

set_option maxRecDepth 100000 in
set_option maxHeartbeats 1000000 in
theorem ranksClosure_any (R : Option Addr) (n cr : Nat) (r : List Int) (k : Nat) (a : Nat) (w : World) (hl : r.length = n) (hk : k < n) (hn : n ≤ 16777216)
    (ha : w.cell? ⟨a, 0, none⟩ = some (.slice R n cr)) (hR : Cells w R (ints r)) :
    Calls Try.prog 58 #[.int .i64 k, .pointer (some ⟨a, 0, none⟩)] w fun e w' => e = .returned (.bool (decide (r.getD k 0 < 0))) ∧ Below w.heap.size w w' := by
  obtain ⟨bb, oo, rfl, hc⟩ := hR.int (k := k) (by omega)
  have ck := hc k (by omega)
  generalize r.getD k 0 = x at *
  have b0 : (0 : Int) ≤ (k : Int) := by omega
  have b1 : (k : Int) < (n : Int) := by omega
  clear hc hR
  by_cases hx : x < 0
  · go_enter Try.func58, Try.ntmps58
    go_wp2_with fail
    go_ret
    exact ⟨by simp [hx], Below.refl _ _⟩
  · go_enter Try.func58, Try.ntmps58
    go_wp2_with fail
    go_ret
    exact ⟨by simp [hx], Below.refl _ _⟩

set_option maxRecDepth 100000 in
set_option maxHeartbeats 16000000 in
theorem implRanksOf_any (v u1 : Value) (l : Sys) (g : List Int) (w : World) (hs : SmallSys l) (hv : RSys w v l) (hgn : g.length ≤ 16777216) (hg1 : RI w u1 g) :
    Calls Try.prog 24 #[v, u1] w fun e w' => ∃ r, e = .returned (.tuple #[r, .bool (okGoals l g)]) ∧ w'.ownsRow w.heap.size 3 1 r (rksL l g).length (ints (rksL l g)) ∧ Below w.heap.size w w' := by
  have HV := Lib.hid (show ∀ W, Below w.heap.size w W → RSys W v l from fun W hb => hv.below hb)
  obtain ⟨G, cg, rfl, _, hG⟩ := hg1
  have HG := Lib.hid (show ∀ W, Below w.heap.size w W → Cells W G (ints g) from fun W hb => hG.below hb)
  obtain ⟨sv, tv, rfl, hsv, htv⟩ := hv
  obtain ⟨A, c, rfl, _⟩ := hsv.form
  obtain ⟨B, d, rfl, _, _⟩ := htv
  have hb1 : ∀ o, Below w.heap.size w (w.alloc o) := fun o => (Below.refl _ _).alloc (Nat.le_refl _) o
  have HB := Lib.hid hb1
  have H1 := Lib.hid (fun o => isGoals_any _ l G cg g (w.alloc o) hs (HV.out _ (hb1 o)) hgn (HG.out _ (hb1 o)))
  have hsn := hs.1
  have hsn2 := hs.2
  clear hsv hG hb1
  cases hg : okGoals l g
  · have E1 := Lib.hid (show rksL l g = [] by unfold rksL; rw [hg]; rfl)
    rw [hg] at H1
    clear hg
    go_enter Try.func24, Try.ntmps24
    go_wp2_with fail
    refine (H1.out _).mono ?_
    rintro e w1 ⟨rfl, hw1⟩
    have HZ := Lib.hid ((HB.out _).trans (hw1.mono (HB.out _).size))
    clear hw1
    go_wp2_with fail
    go_ret2
    rw [E1.out]
    exact ⟨_, rfl, World.ownsRow_nil _ _ _ _, HZ.out⟩
  obtain ⟨hgood, hgp, hgi⟩ := okGoals_of hg
  obtain ⟨l1, l2⟩ := good_len hgood
  have HST := Lib.hid (show StepsN l.states.length l.steps from good_steps hgood)
  have HGI := Lib.hid hgi
  have E1 := Lib.hid (show rksL l g = ranksL l g by unfold rksL; rw [hg]; rfl)
  rw [hg] at H1
  clear hg hgp hgi hgood
  go_enter Try.func24, Try.ntmps24
  go_wp2_with fail
  refine (H1.out _).mono ?_
  rintro e w1 ⟨rfl, hw1⟩
  obtain ⟨bx, hlt1⟩ := one_box hw1
  have HZ := Lib.hid ((HB.out _).trans (hw1.mono (HB.out _).size))
  have hA : Below w1.heap.size w1 (w1.alloc (.cells #[.int .i64 (-1)] 3)) := (Below.refl _ _).alloc (Nat.le_refl _) _
  have bx1 := (hA.block w.heap.size hlt1).trans bx
  have x0 : (w1.alloc (.cells #[.int .i64 (-1)] 3)).cell? ⟨w.heap.size, 0, none⟩ = some (.slice A l.states.length c) := cell_of_row _ _ _ _ _ _ bx1
  have y0 : w1.cell? ⟨w.heap.size, 0, none⟩ = some (.slice A l.states.length c) := cell_of_row _ _ _ _ _ _ bx
  have y1 : w1.cell? ⟨w.heap.size, 1, none⟩ = some (.slice B l.steps.length d) := cell_of_row _ _ _ _ _ _ bx
  have HZ1 := Lib.hid (HZ.out.trans (hA.mono HZ.out.size))
  have HBX1 := Lib.hid bx1
  have HCL := Lib.hid (show Cells (w1.alloc (.cells #[.int .i64 (-1)] 3)) (some ⟨w1.heap.size, 0, none⟩) (ints [-1]) from fun j u hj => ⟨w1.heap.size, 0, rfl, by
    have := new_cell1 w1 (.int .i64 (-1)) 3 rfl j u hj
    rwa [Addr.add_lit] at this⟩)
  have hz1 : (w1.alloc (.cells #[.int .i64 (-1)] 3)).heap.size = w1.heap.size + 1 := by simp
  have HSZ1 := Lib.hid hz1
  clear hw1 hA bx bx1 hz1
  go_wp2_with fail
  refine (repeat_any (some ⟨w1.heap.size, 0, none⟩) 1 (-1) l.states.length _ l1 l2 HCL.out).mono ?_
  rintro e w2 ⟨rv, rfl, hrv, hw2⟩
  rw [HSZ1.out] at hrv
  obtain ⟨gb, cb, rfl, hg0, hg1⟩ : ∃ gb cb, rv = .slice (some ⟨gb, 0, none⟩) l.states.length cb ∧ w1.heap.size + 1 ≤ gb ∧ gb < w2.heap.size := by
    rcases hrv.2 with ⟨e, h0⟩ | ⟨gb, cap, cur, e, _⟩
    · omega
    · subst e
      have := hrv.lt gb rfl
      exact ⟨gb, cap, rfl, this.1, this.2⟩
  have HO0 := Lib.hid (show OutW w (w2.alloc (.cells #[.slice (some ⟨gb, 0, none⟩) l.states.length cb] 26)) (.cells #[.slice A l.states.length c, .slice B l.steps.length d] 32) (.cells #[.slice (some ⟨gb, 0, none⟩) l.states.length cb] 26) w2.heap.size (w1.heap.size + 1) gb l.states.length cb (zeroG (List.replicate l.states.length (-1)) (g.take 0)) from by
    have hbx2 := (hw2.block w.heap.size (by rw [HSZ1.out]; omega)).trans HBX1.out
    exact ⟨by show World.ownsRow _ _ _ _ _ _ _; exact hrv.alloc _, by simp [zeroG], heap_alloc_new _ _, (heap_alloc_old _ _ (Array.getElem?_eq_some_iff.1 hbx2).1).trans hbx2, (HZ1.out.trans (hw2.mono HZ1.out.size)).alloc (Nat.le_trans HZ1.out.size hw2.size) _⟩)
  clear hrv hw2 x0
  have hne : gb ≠ w2.heap.size := by omega
  have hB1 : w.heap.size < w1.heap.size + 1 := by omega
  have hNR := Lib.hid (show RK l.states.length l.steps g (rkInit l.states.length g) from rk_init)
  have hNU := Lib.hid (up_init l.states.length g)
  have hNZ := Lib.hid (zeroG_init HGI.out)
  go_wp2_with fail
  generalize w2.heap.size = P at *
  generalize w1.heap.size + 1 = B1 at *
  generalize hOB : (Obj.cells #[.slice A l.states.length c, .slice B l.steps.length d] 32) = ob at HO0
  generalize hPB : (Obj.cells #[.slice (some ⟨gb, 0, none⟩) l.states.length cb] 26) = pb at HO0
  have HOB := Lib.hid hOB
  have HPB := Lib.hid hPB
  have HP0 := Lib.hid (fun W o (h : OutW w W ob pb P B1 gb l.states.length cb o) => show W.cell? ⟨P, 0, none⟩ = some (.slice (some ⟨gb, 0, none⟩) l.states.length cb) by
    have := h.cell
    rw [← HPB.out] at this
    exact cell_of_row _ _ _ _ _ _ this)
  have HX0 := Lib.hid (fun W o (h : OutW w W ob pb P B1 gb l.states.length cb o) => show W.cell? ⟨w.heap.size, 0, none⟩ = some (.slice A l.states.length c) ∧ W.cell? ⟨w.heap.size, 1, none⟩ = some (.slice B l.steps.length d) by
    have := h.box
    rw [← HOB.out] at this
    exact ⟨cell_of_row _ _ _ _ _ _ this, cell_of_row _ _ _ _ _ _ this⟩)
  clear hOB hPB y0 y1
  go_loopw [25] (fun i wr => ∃ k : Nat, k ≤ g.length ∧ i = .int .i64 k ∧ OutW w wr ob pb P B1 gb l.states.length cb (zeroG (List.replicate l.states.length (-1)) (g.take k)))
    (fun i _ => g.length - (intOf i).toNat)
  case atStart => exact ⟨0, Nat.zero_le _, rfl, HO0.out⟩
  case round =>
    clear HO0
    obtain ⟨k, hk, rfl, hout⟩ := hrel
    have HO := Lib.hid hout
    have q0 := HP0.out _ _ hout
    clear hout
    by_cases hlt : k < g.length
    · obtain ⟨j, ej, hj⟩ := HGI.out (g.getD k 0) (getD_mem hlt)
      obtain ⟨rb, ro, e, hc⟩ := (HG.out wr HO.out.below).int hlt
      cases e
      have ck := hc k hlt
      rw [ej] at ck
      have HNX := Lib.hid (zeroG_next (o := List.replicate l.states.length (-1)) hlt)
      have HEJ := Lib.hid ej
      clear hc ej
      generalize zeroG (List.replicate l.states.length (-1)) (g.take k) = o at *
      obtain ⟨c0, c1⟩ := HO.out.at_ hj
      have HN := Lib.hid (HO.out.set hj hne hB1 0)
      generalize o.getD j 0 = y at *
      have b0 : (0 : Int) ≤ (k : Int) := by omega
      have b1 : (k : Int) < (g.length : Int) := by omega
      have b2 : (0 : Int) ≤ (j : Int) := by omega
      have b3 : (j : Int) < (l.states.length : Int) := by omega
      go_wp2_with fail
      go_roundw
      case rel => exact ⟨k + 1, by omega, by go_num, by rw [HNX.out, HEJ.out, Int.toNat_natCast]; exact HN.out⟩
      case measure => simp [intOf]; omega
    · obtain rfl : k = g.length := by omega
      rw [List.take_length, hNZ.out] at HO
      clear q0
      go_wp2_with fail
      go_loopw [9] (fun cv wr => ∃ (b : Bool) (o : List Int), cv = .bool b ∧ RK l.states.length l.steps g o ∧ Up l.states.length o ∧ (b = false → RkStable l.states.length l.steps o) ∧ OutW w wr ob pb P B1 gb l.states.length cb o)
        (fun cv wr => match cv with | .bool true => negW wr gb l.states.length + 1 | _ => 0)
      case atStart => exact ⟨true, _, rfl, hNR.out, hNU.out, (fun h => by cases h), HO.out⟩
      case round =>
        clear HO
        obtain ⟨b, o, rfl, hrk, hup, hst, hout⟩ := hrel
        have q0 := HP0.out _ _ hout
        cases b with
        | false =>
          have HD := Lib.hid (ranks_done HST.out hrk (hst rfl))
          have HR := Lib.hid (owns_mono hout.row (Nat.le_of_lt hB1))
          have HBB := Lib.hid hout.below
          have HLN := Lib.hid hrk.len
          clear hrk hup hst hout
          go_wp2_with fail
          go_ret2
          refine ⟨_, rfl, ?_, HBB.out⟩
          rw [E1.out, ← HD.out, HLN.out]
          exact HR.out
        | true =>
          have HM := Lib.hid (negW_eq hrk.len (fun j hj => (hout.at_ hj).1))
          have HS0 := Lib.hid (sw_zero hrk hup)
          have HO := Lib.hid hout
          clear hrk hup hst hout
          obtain ⟨wo, hwo⟩ : ∃ wo, wo = wr := ⟨_, rfl⟩
          subst hwo
          go_wp2_with fail
          go_loopw [9, 36] (fun cv i wr => ∃ (b : Bool) (o' : List Int) (k : Nat), k ≤ l.states.length ∧ i = .int .i64 k ∧ cv = .bool b ∧ SwAt l.states.length l.steps g o k b o' ∧ OutW w wr ob pb P B1 gb l.states.length cb o')
            (fun _ i _ => l.states.length - (intOf i).toNat)
          case atStart => exact ⟨false, o, 0, Nat.zero_le _, rfl, rfl, HS0.out, HO.out⟩
          case round =>
            clear HO HS0 q0
            obtain ⟨b, o', k, hk, rfl, rfl, hsw, hout⟩ := hrel
            have HO := Lib.hid hout
            have HSW := Lib.hid hsw
            have q0 := HP0.out _ _ hout
            obtain ⟨x0, x1⟩ := HX0.out _ _ hout
            clear hout hsw
            obtain ⟨wb, hwb⟩ : ∃ wb, wb = wr := ⟨_, rfl⟩
            subst hwb
            by_cases hlt : k < l.states.length
            · go_wp2_with fail
              refine (next_any _ l (k : Int) _ hs (HV.out _ HO.out.below)).mono ?_
              rintro e w3 ⟨nv, rfl, hnv, hw3⟩
              obtain ⟨NA, nc, rfl, hnv⟩ := owns_form hnv
              have HNV := Lib.hid hnv
              have HNC := Lib.hid (Cells.of_owns hnv)
              have hnl : (nextL l.steps (k : Int)).length ≤ l.steps.length := by have := next_len l.steps (k : Int) l.steps.length; rwa [List.take_length] at this
              have HO3 := Lib.hid (HO.out.mono hw3)
              have HGW := Lib.hid (HO.out.row.lt gb rfl).2
              have HNXI := Lib.hid (fun q (hq : q < (nextL l.steps (k : Int)).length) => next_is HST.out hq)
              have HSK := Lib.hid (fun h => sw_skip HSW.out h)
              have HSP := Lib.hid (fun h0 hne hneg => sw_put HST.out HSW.out hlt h0 hne hneg)
              have HVL := Lib.hid (fun hne hneg => sw_val (ss := l.steps) (j := k) HSW.out.up HSW.out.rk.len hne hneg)
              have HLO := Lib.hid (HSW.out.rk.low k)
              have HLN := Lib.hid HSW.out.rk.len
              have HUP := Lib.hid HSW.out.up
              clear hnv hw3 q0 x0 x1
              have q0 := HP0.out _ _ HO3.out
              obtain ⟨c0, c1⟩ := HO3.out.at_ hlt
              have b0 : (0 : Int) ≤ (k : Int) := by omega
              have b1 : (k : Int) < (l.states.length : Int) := by omega
              generalize nextL l.steps (k : Int) = nx at *
              generalize hy : o'.getD k 0 = y at *
              have HY := Lib.hid hy
              clear hy
              by_cases hy0 : 0 ≤ y
              · have HS2 := Lib.hid (HSK.out (.inl hy0))
                go_wp2_with fail
                go_roundw
                case rel => exact ⟨b, o', k + 1, by omega, by go_num, rfl, HS2.out, HO3.out⟩
                case measure => simp [intOf]; omega
              have hyn : y < 0 := by omega
              have HYN := Lib.hid hyn
              by_cases hnx : nx = []
              · subst hnx
                have HS2 := Lib.hid (HSK.out (.inr (.inl rfl)))
                go_wp2_with fail
                go_roundw
                case rel => exact ⟨b, o', k + 1, by omega, by go_num, rfl, HS2.out, HO3.out⟩
                case measure => simp [intOf]; omega
              have hn0 : ((nx.length : Int) == 0) = false := by
                rw [beq_eq_false_iff_ne]
                intro h
                exact hnx (List.eq_nil_of_length_eq_zero (by omega))
              have HNE := Lib.hid hnx
              have HCF := Lib.hid (containsFuncI_any NA nc nx 58 #[.pointer (some ⟨P, 0, none⟩)] (negAt o' nx) w3 (by omega) HNC.out (enter_of Try.func58 (by kernel_rfl) (by kernel_rfl)) (fun q W hq hb => by
                obtain ⟨j, ej, hj⟩ := HNXI.out q hq
                have hO := HO3.out.mono hb
                have := ranksClosure_any (some ⟨gb, 0, none⟩) l.states.length cb o' j P W HLN.out hj (by omega) (HP0.out _ _ hO) hO.cells
                unfold negAt
                rw [ej]
                unfold atI
                rw [Int.toNat_natCast]
                exact this))
              rw [negAny_any] at HCF
              clear hnx
              cases hany : negAny nx o'
              case true =>
                have HS2 := Lib.hid (HSK.out (.inr (.inr hany)))
                rw [hany] at HCF
                clear hany
                go_wp2_with ((with_reducible refine HCF.out.mono ?_); rintro e w4 ⟨rfl, hw4⟩)
                go_roundw
                case rel => exact ⟨b, o', k + 1, by omega, by go_num, rfl, HS2.out, HO3.out.mono hw4⟩
                case measure => simp [intOf]; omega
              have HNG := Lib.hid hany
              have HS2 := Lib.hid (HSP.out hyn HNE.out hany)
              have HV2 := Lib.hid (HVL.out HNE.out hany)
              rw [hany] at HCF
              clear hany
              go_wp2_with ((with_reducible refine HCF.out.mono ?_); rintro e w4 ⟨rfl, hw4⟩)
              have HO4 := Lib.hid (show OutW w w4 ob pb P B1 gb l.states.length cb (o'.set k (pfR o' nx 0)) by
                have e : o'.set k (pfR o' nx 0) = o' := by
                  have h1 : pfR o' nx 0 = -1 := rfl
                  have h2 : o'.getD k 0 = -1 := by have := HLO.out; rw [HY.out]; omega
                  have h3 := list_self (o := o') (i := k) (by have := HLN.out; omega)
                  rw [h2] at h3
                  rw [h1, h3]
                rw [e]
                exact HO3.out.mono hw4)
              have HN4 := Lib.hid (owns_below HNV.out hw4 (Nat.le_refl _))
              clear hw4 c0 c1 q0
              go_loopw [59] (fun i wr => ∃ q : Nat, q ≤ nx.length ∧ i = .int .i64 q ∧ OutW w wr ob pb P B1 gb l.states.length cb (o'.set k (pfR o' nx q)) ∧ wr.ownsRow wb.heap.size 3 1 (.slice NA nx.length nc) nx.length (ints nx))
                (fun i _ => nx.length - (intOf i).toNat)
              case atStart => exact ⟨0, Nat.zero_le _, rfl, HO4.out, HN4.out⟩
              case round =>
                clear HO4 HN4
                obtain ⟨q, hq, rfl, hout, hnv⟩ := hrel
                have HO := Lib.hid hout
                have q0 := HP0.out _ _ hout
                by_cases hqt : q < nx.length
                · obtain ⟨j, ej, hj⟩ := HNXI.out q hqt
                  obtain ⟨nb, no, e, hc⟩ := (Cells.of_owns hnv).int hqt
                  have ck := hc q hqt
                  rw [ej] at ck
                  obtain ⟨hoth, hoth0⟩ := next_other HNG.out (by rw [HY.out]; exact HYN.out) hqt (pfR o' nx q) (j := k) (by have := HLN.out; omega)
                  have hM := negs_le o'
                  rw [HLN.out] at hM
                  have hm1 := pfR_ge (o := o') (nx := nx) q hq
                  have hm2 := pfR_le (o := o') (nx := nx) (M := (l.states.length : Int) - negs o') (by omega) (fun x => HUP.out.at_ x) q hq
                  have hz2 := HUP.out.at_ (nx.getD q 0)
                  have HPN := Lib.hid (pfR_next (o := o') hqt)
                  obtain ⟨d0, d1⟩ := hout.at_ hlt
                  obtain ⟨e0, e1⟩ := hout.at_ hj
                  have hgk : (o'.set k (pfR o' nx q)).getD k 0 = pfR o' nx q := by rw [getD_set _ _ _ _ (by have := HLN.out; omega), if_pos rfl]
                  have hgj : (o'.set k (pfR o' nx q)).getD j 0 = atI o' (nx.getD q 0) := by rw [← hoth, ej]; unfold atI; rw [Int.toNat_natCast]
                  rw [hgk] at d0
                  rw [hgj] at e0
                  have HSET := Lib.hid (fun y => hout.set hlt hne hB1 y)
                  have HLOW := Lib.hid (fun y => owns_set_low (u := Value.int .i64 y) (p := ⟨gb, k, none⟩) hnv HGW.out)
                  clear hc hoth hgk hgj hout hnv
                  generalize atI o' (nx.getD q 0) = z at *
                  generalize pfR o' nx q = m at *
                  have hng0 : (0 : Int) ≤ (negs o' : Int) := by omega
                  generalize (negs o' : Int) = ng at *
                  subst e
                  have b2 : (0 : Int) ≤ (j : Int) := by omega
                  have b3 : (j : Int) < (l.states.length : Int) := by omega
                  have b4 : (0 : Int) ≤ (q : Int) := by omega
                  have b5 : (q : Int) < (nx.length : Int) := by omega
                  have hw : IntKind.i64.wrap (z + 1) = z + 1 := IntWalk.i64_in _ (by omega)
                  have hmx : max m (z + 1) = if m < z + 1 then z + 1 else m := by split <;> omega
                  have HMX := Lib.hid hmx
                  rw [hmx] at HPN
                  clear hmx
                  have HSET2 := Lib.hid (show OutW w (wr.setCell ⟨gb, k, none⟩ (.int .i64 (if m < z + 1 then z + 1 else m))).drew ob pb P B1 gb l.states.length cb (o'.set k (if m < z + 1 then z + 1 else m)) by
                    have := HSET.out (if m < z + 1 then z + 1 else m)
                    rw [List.set_set] at this
                    exact ⟨this.row, this.len, this.cell, this.box, this.below.drew⟩)
                  have HLOW2 := Lib.hid (show (wr.setCell ⟨gb, k, none⟩ (.int .i64 (if m < z + 1 then z + 1 else m))).drew.ownsRow wb.heap.size 3 1 (.slice (some ⟨nb, no, none⟩) nx.length nc) nx.length (ints nx) from HLOW.out _)
                  go_wp2_with fail
                  refine wp_region_still_tail 13 (by kernel_rfl) (by kernel_rfl) ?_
                  simp only [List.take_succ_cons, List.take_zero, List.drop_succ_cons, List.drop_zero]
                  repeat still_step
                  refine wpStill_nil ?_
                  clear hw
                  change wpList _ _ _ _ _ wr.drew
                  go_wp2_with fail
                  go_roundw
                  case rel => exact ⟨q + 1, by omega, by go_num, by rw [HPN.out]; exact HSET2.out, HLOW2.out⟩
                  case measure => simp [intOf]; omega
                · obtain rfl : q = nx.length := by omega
                  have hall := pfR_all HNE.out HNG.out
                  rw [hall] at HO
                  clear hout hnv q0
                  go_wp2_with fail
                  go_roundw
                  case rel => exact ⟨true, _, k + 1, by omega, by go_num, rfl, HS2.out, HO.out⟩
                  case measure => simp [intOf]; omega
            · obtain rfl : k = l.states.length := by omega
              go_wp2_with fail
              go_roundw
              case rel => exact ⟨b, o', rfl, HSW.out.rk, HSW.out.up, fun hb => by subst hb; exact sw_end HSW.out, HO.out⟩
              case measure =>
                have hm2 := negW_eq HSW.out.rk.len (fun j hj => (HO.out.at_ hj).1)
                have hm1 := HM.out
                cases b with
                | false => simp
                | true =>
                  have := HSW.out.on rfl
                  simp only [Array.getD, List.getD]
                  show negW _ _ _ + 1 < negW _ _ _ + 1
                  omega

end Go.Proofs.Ytlgdmafgbmnjdaa
