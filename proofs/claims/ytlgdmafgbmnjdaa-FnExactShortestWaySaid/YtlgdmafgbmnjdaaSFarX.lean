/- Systems: the shortest way: plain law of the walk, rows read from a place on, the program walked. -/
import Derived.Test.YtlgdmafgbmnjdaaSFarL
import Derived.Test.YtlgdmafgbmnjdaaSRankN
import Derived.Test.YtlgdmafgbmnjdaaSGoal
import Derived.Test.YtlgdmafgbmnjdaaProg
import Derived.Test.YtlgdmafgbmnjdaaSRanksI
import Derived.ArgAppend
import Derived.Test.YtlgdmafgbmnjdaaClone
import Derived.StillTailTactics
import Derived.Test.YtlgdmafgbmnjdaaSFrom
set_option linter.unusedVariables false
namespace Go.Proofs.Ytlgdmafgbmnjdaa
open Go.RowKit
open Go.Sort (grow)

section
variable {n : Nat} {ss : List I3} {g : List Int}

theorem far_base (hs : StepsN n ss) (hg : g.Pairwise (· < ·)) (hn : InN n g) {i : Nat} (hi : i < (farAt n ss g i).2.length) :
    ∃ u : Nat, (farAt n ss g i).2.getD i 0 = (u : Int) ∧ u < n ∧ (u : Int) ∈ (farAt n ss g i).2 ∧ FarIn n ss g i (atI (farAt n ss g i).1 (u : Int)) (farAt n ss g i) := by
  obtain ⟨top, h, ht⟩ := far_at hs hg hn i (by omega)
  obtain ⟨u, e, hu⟩ := h.inN _ (getD_mem hi)
  have := ht hi
  rw [e] at this
  rw [this] at h
  exact ⟨u, e, hu, by rw [← e]; exact getD_mem hi, h⟩

theorem far_up {i u : Nat} (hs : StepsN n ss) (hun : u < n) : ∀ (ts : List I3), (∀ t ∈ ts, t ∈ ss) → ∀ (x : List Int × List Int), FarIn n ss g i (atI x.1 (u : Int)) x → (u : Int) ∈ x.2 → i ≤ x.2.length → Up n x.1 →
    Up n (ts.foldl (farStep u) x).1 ∧ 2 * negs (ts.foldl (farStep u) x).1 + (ts.foldl (farStep u) x).2.length ≤ 2 * negs x.1 + x.2.length
  | [], _, x, _, _, _, hup => ⟨hup, Nat.le_refl _⟩
  | s :: ts, hsub, x, h, hu, hil, hup => by
    obtain ⟨h1, h2, _, _⟩ := far_put hs (hsub s (by simp)) h hu hun hil
    have hstep : Up n (farStep u x s).1 ∧ 2 * negs (farStep u x s).1 + (farStep u x s).2.length ≤ 2 * negs x.1 + x.2.length := by
      obtain ⟨a, b, ha, hb, han, hbn⟩ := hs s (hsub s (by simp))
      unfold farStep
      split
      · rename_i hc
        simp only [Bool.and_eq_true, beq_iff_eq, decide_eq_true_eq] at hc
        obtain ⟨c1, c2⟩ := hc
        have hv : 0 ≤ atI x.1 s.2.2 := by
          rw [c1, atI_nat]
          exact (h.mem u hun).1 hu
        have hle := hup.at_ s.2.2
        rw [ha, atI_nat] at c2
        have hl := h.len
        have hng := negs_set (o := x.1) (i := a) (x := atI x.1 s.2.2 + 1) (by omega) c2 (by omega)
        refine ⟨?_, ?_⟩
        · show Up n (x.1.set s.1.toNat (atI x.1 s.2.2 + 1))
          rw [ha, Int.toNat_natCast]
          exact up_set hup hl han c2 (by omega) (by omega)
        · show 2 * negs (x.1.set s.1.toNat (atI x.1 s.2.2 + 1)) + (x.2 ++ [s.1]).length ≤ _
          rw [ha, Int.toNat_natCast, List.length_append]
          simp
          omega
      · exact ⟨hup, Nat.le_refl _⟩
    obtain ⟨k1, k2⟩ := far_up hs hun ts (fun t ht => hsub t (List.mem_cons_of_mem _ ht)) _ h1 (h2.subset hu) (Nat.le_trans hil h2.length_le) hstep.1
    rw [List.foldl_cons]
    exact ⟨k1, Nat.le_trans k2 hstep.2⟩

theorem farAt_next {i : Nat} (hi : i < (farAt n ss g i).2.length) : farAt n ss g (i + 1) = ss.foldl (farStep ((farAt n ss g i).2.getD i 0)) (farAt n ss g i) := by rw [farAt, if_pos hi]

theorem up_farAt (hs : StepsN n ss) (hg : g.Pairwise (· < ·)) (hn : InN n g) : ∀ i, i ≤ (farAt n ss g i).2.length → Up n (farAt n ss g i).1
  | 0, _ => up_init n g
  | i + 1, h => by
    by_cases hi : i < (farAt n ss g i).2.length
    · obtain ⟨u, e, hu, hm, hf⟩ := far_base hs hg hn hi
      rw [farAt_next hi, e]
      exact (far_up hs hu ss (fun t ht => ht) _ hf hm (by omega) (up_farAt hs hg hn i (by omega))).1
    · rw [farAt, if_neg hi] at h
      omega

/-- At a place of the queue, behind j steps of the round. -/
theorem far_mid (hs : StepsN n ss) (hg : g.Pairwise (· < ·)) (hn : InN n g) {i : Nat} (hi : i < (farAt n ss g i).2.length) {u : Nat} (e : (farAt n ss g i).2.getD i 0 = (u : Int)) (j : Nat) :
    FarIn n ss g i (atI ((ss.take j).foldl (farStep u) (farAt n ss g i)).1 (u : Int)) ((ss.take j).foldl (farStep u) (farAt n ss g i)) ∧ Up n ((ss.take j).foldl (farStep u) (farAt n ss g i)).1 ∧
      ((ss.take j).foldl (farStep u) (farAt n ss g i)).2.getD i 0 = (u : Int) ∧ i < ((ss.take j).foldl (farStep u) (farAt n ss g i)).2.length ∧ ((ss.take j).foldl (farStep u) (farAt n ss g i)).2.length ≤ n := by
  obtain ⟨u', e', hu, hm, hf⟩ := far_base hs hg hn hi
  obtain rfl : u' = u := by omega
  have hup := up_farAt hs hg hn i (by omega)
  have hsub : ∀ t ∈ ss.take j, t ∈ ss := fun t ht => List.mem_of_mem_take ht
  obtain ⟨a, b, _, _⟩ := far_fold hs hu (ss.take j) hsub _ hf hm (by omega)
  obtain ⟨c, _⟩ := far_up hs hu (ss.take j) hsub _ hf hm (by omega) hup
  exact ⟨a, c, by rw [prefix_getD b hi]; exact e, Nat.lt_of_lt_of_le hi b.length_le, pigeon n a.nodup a.inN⟩
theorem far_less (hs : StepsN n ss) (hg : g.Pairwise (· < ·)) (hn : InN n g) {i : Nat} (hi : i < (farAt n ss g i).2.length) :
    2 * negs (farAt n ss g (i + 1)).1 + ((farAt n ss g (i + 1)).2.length - (i + 1)) < 2 * negs (farAt n ss g i).1 + ((farAt n ss g i).2.length - i) := by
  obtain ⟨u, e, hu, hm, hf⟩ := far_base hs hg hn hi
  have hup := up_farAt hs hg hn i (by omega)
  have := (far_up hs hu ss (fun t ht => ht) _ hf hm (by omega) hup).2
  have hl := (far_fold hs hu ss (fun t ht => ht) _ hf hm (by omega)).2.1.length_le
  rw [farAt_next hi, e]
  omega
theorem far_step_next {u : Int} {x : List Int × List Int} {j : Nat} (h : j < ss.length) : (ss.take (j + 1)).foldl (farStep u) x = farStep u ((ss.take j).foldl (farStep u) x) ss[j] := by
  rw [List.take_succ_eq_append_getElem h, List.foldl_append]
  rfl
end

/-- The first step that is nearer, as a place. -/
theorem find_idx {l : List I3} {p : I3 → Bool} {s : I3} (h : l.find? p = some s) : ∃ k : Nat, idxR l.length (fun k => p (l.getD k (0, 0, 0))) = (k : Int) ∧ ∃ hk : k < l.length, l[k] = s := by
  obtain ⟨h1, k, hk, h2, h3⟩ := List.find?_eq_some_iff_getElem.1 h
  refine ⟨k, idxR_some hk (fun j hj => ?_) ?_, hk, h2⟩
  · have := h3 j hj
    simpa [List.getD, show j < l.length by omega] using this
  · simpa [List.getD, hk, h2] using h1

def okShort (l : Sys) (p : Int) (g : List Int) : Bool := goodSys l && stateB l p && goalsB l g && !decide (atI (farL l g) p < 0)
def shortL (l : Sys) (p : Int) (g : List Int) : List I3 := if okShort l p g then wayL l.steps (farL l g) (atI (farL l g) p).toNat p else []

/-- The slice v has the numbers xs; behind them the row that holds them may be written as far as the slice has room. -/
def TailR (W : World) (B : Nat) (v : Value) (xs : List Int) : Prop :=
  ∃ (g off cap : Nat) (cur : Array Value), v = .slice (some ⟨g, off, none⟩) xs.length cap ∧ B ≤ g ∧ W.heap[g]? = some (.cells cur 3) ∧ off + cap ≤ cur.size ∧ xs.length ≤ cap ∧ ∀ j u, (ints xs)[j]? = some u → cur[off + j]? = some u

theorem tail_of_owns {W : World} {B : Nat} {v : Value} {xs : List Int} (h : W.ownsRow B 3 1 v xs.length (ints xs)) (h0 : 0 < xs.length) : TailR W B v xs := by
  rcases h.2 with ⟨_, h1⟩ | ⟨g, cap, cur, rfl, hb, hg, h1, h2, h3, h4⟩
  · omega
  · refine ⟨g, 0, cap, cur, rfl, hb, hg, by omega, h1, fun j u hj => ?_⟩
    have hl := (List.getElem?_eq_some_iff.1 hj).1
    rw [← h4, List.getElem?_take, if_pos (by simpa [ints] using hl)] at hj
    rw [Nat.zero_add]
    simpa using hj
theorem TailR.cells {W : World} {B : Nat} {v : Value} {xs : List Int} (h : TailR W B v xs) : ∃ g off cap, v = .slice (some ⟨g, off, none⟩) xs.length cap ∧ B ≤ g ∧ g < W.heap.size ∧ xs.length ≤ cap ∧ ∀ j, j < xs.length → W.cell? ⟨g, off + j, none⟩ = some (.int .i64 (xs.getD j 0)) := by
  obtain ⟨g, off, cap, cur, e, hb, hg, h1, h2, h3⟩ := h
  refine ⟨g, off, cap, e, hb, (Array.getElem?_eq_some_iff.1 hg).1, h2, fun j hj => ?_⟩
  rw [cell_of_row _ _ _ _ _ _ hg, h3 j _ (getElem?_ints _ _ hj)]
theorem TailR.block {W W' : World} {B : Nat} {v : Value} {xs : List Int} (h : TailR W B v xs) (hk : ∀ g, B ≤ g → g < W.heap.size → W'.heap[g]? = W.heap[g]?) : TailR W' B v xs := by
  obtain ⟨g, off, cap, cur, e, hb, hg, h1, h2, h3⟩ := h
  exact ⟨g, off, cap, cur, e, hb, (hk g hb (Array.getElem?_eq_some_iff.1 hg).1).trans hg, h1, h2, h3⟩
/-- The first number is left behind. -/
theorem TailR.drop {W : World} {B g off cap : Nat} {xs : List Int} (h : TailR W B (.slice (some ⟨g, off, none⟩) xs.length cap) xs) (h0 : 0 < xs.length) (hc : ¬ cap = 1) : TailR W B (.slice (some ⟨g, off + 1, none⟩) (xs.length - 1) (cap - 1)) (xs.drop 1) := by
  obtain ⟨g', off', cap', cur, e, hb, hg, h1, h2, h3⟩ := h
  cases e
  refine ⟨g, off + 1, cap - 1, cur, by rw [List.length_drop], hb, hg, by omega, by rw [List.length_drop]; omega, fun j u hj => ?_⟩
  have : (ints xs)[1 + j]? = some u := by
    have e2 : ints (xs.drop 1) = (ints xs).drop 1 := by simp [ints]
    rw [e2, List.getElem?_drop] at hj
    exact hj
  have := h3 _ u this
  rwa [← Nat.add_assoc] at this

theorem wpList_append_tail {P : Program} (w : World) {ops : Array Oper} {rest : List Oper} {o : Oper} {a : Act} {Q : Exit → Act → World → Prop}
    (hgd : o.guard = none) (s x : Operand) (t : TypeId) (hop : o.op = Op.call { callee := Callee.builtin Builtin.append, args := #[s, x], argTypes := #[t, t] })
    (i : TypeInfo) (z : Value) (h1 : P.underlying t = some (.slice 3)) (h2 : P.info? 3 = some i) (h3 : i.zero = some z) (h4 : i.size = 1) (h5 : i.bytes = 8) (h6 : z.cells.size = 1)
    (B : Nat) (v : Value) (xs : List Int) (hs : a.eval s = v) (ht : TailR w B v xs) (hB : B ≤ w.heap.size)
    (ad : Addr) (y : Int) (c : Nat) (hx : a.eval x = .slice (some ad) 1 c) (hc : ∀ j u, [Value.int .i64 y][j]? = some u → w.cell? (ad.add j) = some u) (hm : xs.length ≤ 1000000)
    (hK : ∀ v' w' row, TailR w' B v' (xs ++ [y]) → w.grownBy w' row → (∀ q, row = some q → B ≤ q) → wpList P ops Q rest (a.put o.dst v') w') :
    wpList P ops Q (o :: rest) a w := by
  obtain ⟨g, off, cap, cur, rfl, hb, hg, q1, q2, q3⟩ := ht
  refine wpList_append_arg w hgd s x t hop 3 i z 1 8 h1 h2 h3 h4 h5 h6 (by omega) g off xs.length cap (ints xs) hs (by simp [ints]) (fun j u hj => by rw [cell_of_row _ _ _ _ _ _ hg]; exact q3 j u hj) ad 1 c [.int .i64 y] hx rfl hc (by simp [Value.oneCell']) ?_ (by unfold maxLen; omega) (by omega) ?_ ?_
  · intro hr j hj
    have : j = 0 := by simpa using hj
    subst this
    rw [cell_of_row _ _ _ _ _ _ hg]
    refine ⟨?_, frozen_of_row _ _ _ _ _ hg⟩
    rw [Array.getElem?_eq_getElem (show off + xs.length * 1 + 0 < cur.size by omega)]
    rfl
  · intro hr
    have hg2 := heap_setCell_same w g (off + xs.length * 1) cur 3 (.int .i64 y) hg
    refine hK _ _ (some g) ⟨g, off, cap, _, by rw [List.length_append]; rfl, hb, hg2, by rw [Array.size_setIfInBounds]; exact q1, by rw [List.length_append]; exact hr, fun j u hj => ?_⟩ ⟨rfl, rfl, rfl, (by show w.heap.size ≤ (w.setCell ⟨g, off + xs.length * 1, none⟩ (.int .i64 y)).heap.size; simp [World.setCell]), fun k hk hne => heap_setCell_other _ _ _ _ (fun e => hne (by rw [e]))⟩ (fun q hq => by cases hq; exact hb)
    have e2 : ints (xs ++ [y]) = ints xs ++ [.int .i64 y] := by simp [ints]
    rw [e2] at hj
    rw [Array.getElem?_setIfInBounds]
    by_cases hj2 : j < xs.length
    · rw [List.getElem?_append_left (by simpa [ints] using hj2)] at hj
      rw [if_neg (by omega)]
      exact q3 j u hj
    · have hl := (List.getElem?_eq_some_iff.1 hj).1
      have hjx : j = xs.length := by simp [ints] at hl; omega
      subst hjx
      rw [List.getElem?_append_right (by simp [ints])] at hj
      simp [ints] at hj
      subst hj
      rw [if_pos (by omega), if_pos (by omega)]
  · intro hr v' w' hown hgrow
    have hown' : w'.ownsRow w.heap.size 3 1 v' (xs ++ [y]).length (ints (xs ++ [y])) := by
      have e2 : ints (xs ++ [y]) = ints xs ++ [.int .i64 y] := by simp [ints]
      rw [e2, List.length_append]
      exact hown
    exact hK v' w' none (tail_of_owns (owns_mono hown' hB) (by simp)) hgrow (fun q hq => by cases hq)

theorem TailR.heap {W W' : World} {B : Nat} {v : Value} {xs : List Int} (h : TailR W B v xs) (e : W'.heap = W.heap) : TailR W' B v xs := h.block fun g _ _ => by rw [e]
theorem OutW.same {w W W' : World} {ob pb : Obj} {P B1 g n c : Nat} {o : List Int} (h : OutW w W ob pb P B1 g n c o) (e1 : W'.heap = W.heap) (e2 : W'.os = W.os) (e3 : W'.tape = W.tape) (e4 : W'.output = W.output) : OutW w W' ob pb P B1 g n c o := by
  obtain ⟨a1, a2, a3, a4, a5⟩ := h
  refine ⟨?_, a2, by rw [e1]; exact a3, by rw [e1]; exact a4, ⟨e2.trans a5.os, e3.trans a5.tape, e4.trans a5.output, by rw [e1]; exact a5.size, fun k hk => by rw [e1]; exact a5.block k hk⟩⟩
  refine ⟨a1.1, ?_⟩
  rcases a1.2 with hn | ⟨g', cap, cur, e, hb, hg, rest⟩
  · exact .inl hn
  · exact .inr ⟨g', cap, cur, e, hb, by rw [e1]; exact hg, rest⟩
theorem TailR.set_low {W : World} {B : Nat} {v : Value} {xs : List Int} {p : Addr} {u : Value} (h : TailR W B v xs) (hp : p.block < B) : TailR (W.setCell p u) B v xs :=
  h.block fun g hb _ => heap_setCell_other _ _ _ _ (by omega)

theorem TailR.alloc {W W' : World} {B : Nat} {v : Value} {xs : List Int} (h : TailR W B v xs) (o : Obj) (e : W'.heap = W.heap) : TailR (W'.alloc o) B v xs :=
  h.block fun g _ hg => by rw [heap_alloc_old W' o (by rw [e]; exact hg), e]
theorem OutW.grown {w W W' : World} {ob pb : Obj} {P B1 g n c : Nat} {o : List Int} {row : Option Nat} (h : OutW w W ob pb P B1 g n c o) (hg : W.grownBy W' row) (hrow : ∀ q, row = some q → P + 1 ≤ q) (hgP : g < P + 1) (hH : w.heap.size ≤ P) : OutW w W' ob pb P B1 g n c o := by
  obtain ⟨a1, a2, a3, a4, a5⟩ := h
  refine ⟨?_, a2, (hg.block P (Array.getElem?_eq_some_iff.1 a3).1 (fun e => by have := hrow _ e.symm; omega)).trans a3, (hg.block _ (Array.getElem?_eq_some_iff.1 a4).1 (fun e => by have := hrow _ e.symm; omega)).trans a4, a5.grown hg a5.size (fun q hq => by have := hrow q hq; omega)⟩
  refine ⟨a1.1, ?_⟩
  rcases a1.2 with hn | ⟨g', cap, cur, e, hb, hgg, rest⟩
  · exact .inl hn
  · cases e
    exact .inr ⟨g, c, cur, rfl, hb, (hg.block g (Array.getElem?_eq_some_iff.1 hgg).1 (fun e => by have := hrow _ e.symm; omega)).trans hgg, rest⟩

def lenOf (v : Value) : Nat := match v with | .slice _ m _ => m | _ => 0

set_option maxRecDepth 100000 in
set_option maxHeartbeats 1000000 in
theorem indexFuncT_any (v : Value) (l : List I3) (F : FuncId) (cap : Array Value) (p : Nat → Bool) (w : World) (hn : l.length ≤ 16777216) (hv : RA3 w v l)
    (hF : ∀ (args : Array Value) (w : World), (callFunc F args).run Try.prog w = .ok (.enter F args) w)
    (hcall : ∀ (k : Nat) (x : I3) (W : World), l[k]? = some x → Below w.heap.size w W → Calls Try.prog F (#[.agg #[.int .i64 x.1, .int .i64 x.2.1, .int .i64 x.2.2]] ++ cap) W fun e W' => e = .returned (.bool (p k)) ∧ Below W.heap.size W W') :
    Calls Try.prog 53 #[v, .func (.func F) #[] cap] w fun e w' => e = .returned (.int .i64 (idxR l.length p)) ∧ Below w.heap.size w w' := by
  have HC := Lib.hid hcall
  have HV := Lib.hid (show ∀ W, Below w.heap.size w W → RA3 W v l from fun W hb => hv.below hb)
  obtain ⟨A, c, rfl, hm, _⟩ := hv
  clear hcall hm
  go_enter Try.func53, Try.ntmps53
  go_wp2_with fail
  go_loopw [8] (fun i wr => ∃ k : Nat, k ≤ l.length ∧ i = .int .i64 k ∧ (∀ j, j < k → p j = false) ∧ Below w.heap.size w wr)
    (fun i _ => l.length - (intOf i).toNat)
  case atStart => exact ⟨0, Nat.zero_le _, rfl, fun j hj => by omega, Below.refl _ _⟩
  case round =>
    obtain ⟨k, hk, rfl, hall, hbel⟩ := hrel
    have HALL := Lib.hid hall
    clear hall
    by_cases hlt : k < l.length
    · obtain ⟨b, o, c', ev, k0, k1, k2⟩ := (HV.out wr hbel).at_ (List.getElem?_eq_getElem hlt)
      cases ev
      have H := Lib.hid (HC.out k _ wr (List.getElem?_eq_getElem hlt) hbel)
      generalize l[k] = x at *
      have HB := Lib.hid hbel
      clear hbel
      cases hp : p k
      · have HN := Lib.hid (none_next HALL.out hp)
        rw [hp] at H
        clear hp
        go_wp2_with ((with_reducible refine H.out.mono ?_); rintro e w1 ⟨rfl, hb1⟩)
        go_roundw
        case rel => exact ⟨k + 1, by omega, by go_num, HN.out, HB.out.trans (hb1.mono HB.out.size)⟩
        case measure => simp [intOf]; omega
      · have HE := Lib.hid (idxR_some hlt HALL.out hp)
        rw [hp] at H
        clear hp
        go_wp2_with ((with_reducible refine H.out.mono ?_); rintro e w1 ⟨rfl, hb1⟩)
        go_ret
        exact ⟨by rw [HE.out]; rfl, HB.out.trans (hb1.mono HB.out.size)⟩
    · obtain rfl : k = l.length := by omega
      have HE := Lib.hid (idxR_none HALL.out)
      go_wp2
      go_ret
      exact ⟨by rw [HE.out]; rfl, hbel⟩

set_option maxRecDepth 100000 in
set_option maxHeartbeats 2000000 in
theorem wayClosure_any (d : List Int) (n gb cb : Nat) (p b : Nat) (s : I3) (a1 a2 : Nat) (w : World) (hn : n ≤ 40) (hl : d.length = n) (hp : p < n) (hb : s.2.2 = (b : Int)) (hbn : b < n) (hup : ∀ i : Nat, d.getD i 0 ≤ 40) (hlo : ∀ i : Nat, -1 ≤ d.getD i 0)
    (h1 : w.cell? ⟨a1, 0, none⟩ = some (.int .i64 p)) (h2 : w.cell? ⟨a2, 0, none⟩ = some (.slice (some ⟨gb, 0, none⟩) n cb)) (hc : ∀ j, j < n → w.cell? ⟨gb, j, none⟩ = some (.int .i64 (d.getD j 0))) :
    Calls Try.prog 54 #[.agg #[.int .i64 s.1, .int .i64 s.2.1, .int .i64 s.2.2], .pointer (some ⟨a1, 0, none⟩), .pointer (some ⟨a2, 0, none⟩)] w fun e w' => e = .returned (.bool (nearB d p s)) ∧ Below w.heap.size w w' := by
  have hA : Below w.heap.size w (w.alloc (.cells #[.int .i64 s.1, .int .i64 s.2.1, .int .i64 s.2.2] 69)) := (Below.refl _ _).alloc (Nat.le_refl _) _
  have HB := Lib.hid (fun m => below_drewN' hA m)
  have q0 := cell_below hA h1 (lt_of_cell h1)
  have q1 := cell_below hA h2 (lt_of_cell h2)
  have q2 := cell_below hA (hc p hp) (lt_of_cell (hc p hp))
  have q3 := cell_below hA (hc b hbn) (lt_of_cell (hc b hbn))
  have HNB := Lib.hid (show nearB d p s = (s.1 == (p : Int) && (d.getD b 0 == d.getD p 0 - 1)) by unfold nearB; rw [hb, atI_nat, atI_nat])
  have hz1 := hup p
  have hz2 := hlo p
  rw [hb]
  generalize d.getD p 0 = y at *
  generalize d.getD b 0 = z at *
  have b0 : (0 : Int) ≤ (p : Int) := by omega
  have b1 : (p : Int) < (n : Int) := by omega
  have b2 : (0 : Int) ≤ (b : Int) := by omega
  have b3 : (b : Int) < (n : Int) := by omega
  have hwr : IntKind.i64.wrap (y - 1) = y - 1 := IntWalk.i64_in _ (by omega)
  have e0 : (w.alloc (.cells #[.int .i64 s.1, .int .i64 s.2.1, .int .i64 (b : Int)] 69)).cell? ⟨w.heap.size, 0, none⟩ = some (.int .i64 s.1) := cell_of_row _ _ _ _ _ _ (heap_alloc_new _ _)
  have e2 : (w.alloc (.cells #[.int .i64 s.1, .int .i64 s.2.1, .int .i64 (b : Int)] 69)).cell? ⟨w.heap.size, 2, none⟩ = some (.int .i64 (b : Int)) := cell_of_row _ _ _ _ _ _ (heap_alloc_new _ _)
  rw [hb] at HB q0 q1 q2 q3
  clear h1 h2 hc hA hb hup hlo
  obtain ⟨s1, s2, s3⟩ := s
  dsimp only at *
  cases hs : (s1 == (p : Int))
  · rw [hs, Bool.false_and] at HNB
    go_enter Try.func54, Try.ntmps54
    go_wp2_with fail
    go_quiet (fail)
    go_wp2_with fail
    go_ret
    exact ⟨by rw [HNB.out]; rfl, HB.out _⟩
  · rw [hs, Bool.true_and] at HNB
    go_enter Try.func54, Try.ntmps54
    go_wp2_with fail
    go_quiet (fail)
    go_wp2_with fail
    go_ret
    exact ⟨by rw [HNB.out]; rfl, HB.out _⟩

/-- The number at a place of a row, as the world has it. -/
def numW (W : World) (a g : Nat) : Nat := match W.cell? ⟨a, 0, none⟩ with | some (.int _ p) => (match W.cell? ⟨g, p.toNat, none⟩ with | some (.int _ x) => x.toNat | _ => 0) | _ => 0

set_option maxRecDepth 100000 in
set_option maxHeartbeats 16000000 in
theorem implShortestWay_any (v u2 : Value) (l : Sys) (p : Int) (g : List Int) (w : World) (hs : SmallSys l) (hv : RSys w v l) (hgn : g.length ≤ 16777216) (hg1 : RI w u2 g) :
    Calls Try.prog 17 #[v, .int .i64 p, u2] w fun e w' => ∃ r, e = .returned (.tuple #[r, .bool (okShort l p g)]) ∧ w'.ownsRow w.heap.size 69 3 r (shortL l p g).length ((shortL l p g).flatMap tri) ∧ Below w.heap.size w w' := by
  obtain ⟨i0, hi, hz0, hz1, hz2⟩ := info_parts info_ni
  have HV := Lib.hid (show ∀ W, Below w.heap.size w W → RSys W v l from fun W hb => hv.below hb)
  obtain ⟨G, cg, rfl, _, hG⟩ := hg1
  have HG := Lib.hid (show ∀ W, Below w.heap.size w W → Cells W G (ints g) from fun W hb => hG.below hb)
  obtain ⟨sv, tv, rfl, hsv, htv⟩ := hv
  obtain ⟨A, c, rfl, _⟩ := hsv.form
  have htv' := htv
  obtain ⟨B, d, rfl, _, _⟩ := htv
  have HTV := Lib.hid (show ∀ W, Below w.heap.size w W → RA3 W (.slice B l.steps.length d) l.steps from fun W hb => htv'.below hb)
  have hb2 : ∀ o o', Below w.heap.size w ((w.alloc o).alloc o') := fun o o' => ((Below.refl _ _).alloc (Nat.le_refl _) o).alloc (by simp) o'
  have HB := Lib.hid hb2
  have H1 := Lib.hid (fun o o' => isGoals_any _ l G cg g ((w.alloc o).alloc o') hs (HV.out _ (hb2 o o')) hgn (HG.out _ (hb2 o o')))
  have hsn := hs.1
  have hsn2 := hs.2
  clear hsv hG hb2 htv'
  cases hg : okGoals l g
  · have E2 := Lib.hid (show okShort l p g = false by
      unfold okGoals at hg; unfold okShort
      cases h1 : goodSys l
      · rfl
      · rw [h1, Bool.true_and] at hg; rw [hg, Bool.and_false]; rfl)
    have E1 := Lib.hid (show shortL l p g = [] by unfold shortL; rw [E2.out]; rfl)
    rw [hg] at H1
    clear hg
    go_enter Try.func17, Try.ntmps17
    go_wp2_with fail
    refine (H1.out _ _).mono ?_
    rintro e w1 ⟨rfl, hw1⟩
    have HZ := Lib.hid ((HB.out _ _).trans (hw1.mono (HB.out _ _).size))
    clear hw1
    go_wp2_with fail
    go_ret2
    rw [E1.out, E2.out]
    exact ⟨_, rfl, World.ownsRow_nil _ _ _ _, HZ.out⟩
  have hgg : goodSys l = true ∧ goalsB l g = true := by unfold okGoals at hg; rwa [Bool.and_eq_true] at hg
  have E0 := Lib.hid (show okShort l p g = (stateB l p && !decide (atI (farL l g) p < 0)) by unfold okShort; rw [hgg.1, hgg.2, Bool.and_true, Bool.true_and])
  have HGD := Lib.hid hgg.1
  obtain ⟨_, hgp, hgi⟩ := okGoals_of hg
  obtain ⟨l1, l2⟩ := good_len hgg.1
  have HST := Lib.hid (show StepsN l.states.length l.steps from good_steps hgg.1)
  have HGP := Lib.hid hgp
  have HGI := Lib.hid hgi
  rw [hg] at H1
  clear hg hgg hgp hgi
  cases hst : stateB l p
  · have E2 := Lib.hid (show okShort l p g = false by rw [E0.out, hst]; rfl)
    have E1 := Lib.hid (show shortL l p g = [] by unfold shortL; rw [E2.out]; rfl)
    go_enter Try.func17, Try.ntmps17
    go_wp2_with fail
    refine (H1.out _ _).mono ?_
    rintro e w1 ⟨rfl, hw1⟩
    obtain ⟨bx, by_, _⟩ := two_boxes hw1
    have x0 : w1.cell? ⟨w.heap.size, 0, none⟩ = some (.slice A l.states.length c) := cell_of_row _ _ _ _ _ _ bx
    have x1 : w1.cell? ⟨w.heap.size, 1, none⟩ = some (.slice B l.steps.length d) := cell_of_row _ _ _ _ _ _ bx
    have x2 : w1.cell? ⟨w.heap.size + 1, 0, none⟩ = some (.int .i64 p) := cell_of_row _ _ _ _ _ _ by_
    have HZ := Lib.hid ((HB.out _ _).trans (hw1.mono (HB.out _ _).size))
    clear hw1 bx by_
    go_wp2_with fail
    refine (isState_any _ l p w1 hs (HV.out w1 HZ.out)).mono ?_
    rintro e w2 ⟨rfl, hw2⟩
    rw [hst]
    have HZ2 := Lib.hid (HZ.out.trans (hw2.mono HZ.out.size))
    clear hw2 x0 x1 x2
    go_wp2_with fail
    go_ret2
    rw [E1.out, E2.out]
    exact ⟨_, rfl, World.ownsRow_nil _ _ _ _, HZ2.out⟩
  have hpst := inB_true (show inB p 0 ((l.states.length : Int) - 1) = true from hst)
  obtain ⟨ps, rfl⟩ := Int.eq_ofNat_of_zero_le hpst.1
  have hpl : ps < l.states.length := by omega
  have E2 := Lib.hid (show okShort l (ps : Int) g = !decide (atI (farL l g) (ps : Int) < 0) by rw [E0.out, hst]; rfl)
  clear hpst
  go_enter Try.func17, Try.ntmps17
  go_wp2_with fail
  refine (H1.out _ _).mono ?_
  rintro e w0 ⟨rfl, hw0⟩
  obtain ⟨bx, by_, hlt0⟩ := two_boxes hw0
  have x0 : w0.cell? ⟨w.heap.size, 0, none⟩ = some (.slice A l.states.length c) := cell_of_row _ _ _ _ _ _ bx
  have x1 : w0.cell? ⟨w.heap.size, 1, none⟩ = some (.slice B l.steps.length d) := cell_of_row _ _ _ _ _ _ bx
  have x2 : w0.cell? ⟨w.heap.size + 1, 0, none⟩ = some (.int .i64 (ps : Int)) := cell_of_row _ _ _ _ _ _ by_
  have HZ0 := Lib.hid ((HB.out _ _).trans (hw0.mono (HB.out _ _).size))
  clear hw0
  go_wp2_with fail
  refine (isState_any _ l (ps : Int) w0 hs (HV.out w0 HZ0.out)).mono ?_
  rintro e w1 ⟨rfl, hw1⟩
  rw [hst]
  have bx := (hw1.block w.heap.size (by omega)).trans bx
  have by_ := (hw1.block (w.heap.size + 1) (by omega)).trans by_
  have hlt1 : w.heap.size + 1 < w1.heap.size := Nat.lt_of_lt_of_le hlt0 hw1.size
  have HZ := Lib.hid (HZ0.out.trans (hw1.mono HZ0.out.size))
  have hA : Below w1.heap.size w1 (w1.alloc (.cells #[.int .i64 (-1)] 3)) := (Below.refl _ _).alloc (Nat.le_refl _) _
  have bx1 := (hA.block w.heap.size (by omega)).trans bx
  have by1 := (hA.block (w.heap.size + 1) hlt1).trans by_
  have z0 : (w1.alloc (.cells #[.int .i64 (-1)] 3)).cell? ⟨w.heap.size, 0, none⟩ = some (.slice A l.states.length c) := cell_of_row _ _ _ _ _ _ bx1
  have y0 : w1.cell? ⟨w.heap.size, 0, none⟩ = some (.slice A l.states.length c) := cell_of_row _ _ _ _ _ _ bx
  have HZ1 := Lib.hid (HZ.out.trans (hA.mono HZ.out.size))
  have HBX1 := Lib.hid bx1
  have HBY1 := Lib.hid by1
  have HCL := Lib.hid (show Cells (w1.alloc (.cells #[.int .i64 (-1)] 3)) (some ⟨w1.heap.size, 0, none⟩) (ints [-1]) from fun j u hj => ⟨w1.heap.size, 0, rfl, by
    have := new_cell1 w1 (.int .i64 (-1)) 3 rfl j u hj
    rwa [Addr.add_lit] at this⟩)
  have hz1' : (w1.alloc (.cells #[.int .i64 (-1)] 3)).heap.size = w1.heap.size + 1 := by simp
  have HSZ1 := Lib.hid hz1'
  clear hw1 hA bx by_ bx1 by1 hz1' x0 x1 x2
  go_wp2_with fail
  refine (repeat_any (some ⟨w1.heap.size, 0, none⟩) 1 (-1) l.states.length _ l1 l2 HCL.out).mono ?_
  rintro e w2 ⟨rv, rfl, hrv, hw2⟩
  rw [HSZ1.out] at hrv
  obtain ⟨gb, cb, rfl, hg0, hg1⟩ : ∃ gb cb, rv = .slice (some ⟨gb, 0, none⟩) l.states.length cb ∧ w1.heap.size + 1 ≤ gb ∧ gb < w2.heap.size := by
    rcases hrv.2 with ⟨e, h0⟩ | ⟨gb, cap, cur, e, _⟩
    · omega
    · subst e
      have := hrv.lt gb rfl
      exact ⟨gb, cap, rfl, this.1, this.2⟩
  have hbx2 := (hw2.block w.heap.size (by rw [HSZ1.out]; omega)).trans HBX1.out
  have hby2 := (hw2.block (w.heap.size + 1) (by rw [HSZ1.out]; omega)).trans HBY1.out
  have HO0 := Lib.hid (show OutW w (w2.alloc (.cells #[.slice (some ⟨gb, 0, none⟩) l.states.length cb] 26)) (.cells #[.slice A l.states.length c, .slice B l.steps.length d] 32) (.cells #[.slice (some ⟨gb, 0, none⟩) l.states.length cb] 26) w2.heap.size (w1.heap.size + 1) gb l.states.length cb (zeroG (List.replicate l.states.length (-1)) (g.take 0)) from
    ⟨by show World.ownsRow _ _ _ _ _ _ _; exact hrv.alloc _, by simp [zeroG], heap_alloc_new _ _, (heap_alloc_old _ _ (Array.getElem?_eq_some_iff.1 hbx2).1).trans hbx2, (HZ1.out.trans (hw2.mono HZ1.out.size)).alloc (Nat.le_trans HZ1.out.size hw2.size) _⟩)
  have HF0 := Lib.hid ((heap_alloc_old w2 (.cells #[.slice (some ⟨gb, 0, none⟩) l.states.length cb] 26) (Array.getElem?_eq_some_iff.1 hby2).1).trans hby2)
  have HCLN := Lib.hid (cloneI_any G cg g (w2.alloc (.cells #[.slice (some ⟨gb, 0, none⟩) l.states.length cb] 26)) hgn (HG.out _ HO0.out.below))
  clear hrv hw2 hbx2 hby2 z0
  have hne : gb ≠ w2.heap.size := by omega
  have hB1 : w.heap.size < w1.heap.size + 1 := by omega
  have hB2 : w.heap.size + 1 < w1.heap.size + 1 := by omega
  have hsA : (w2.alloc (.cells #[.slice (some ⟨gb, 0, none⟩) l.states.length cb] 26)).heap.size = w2.heap.size + 1 := by simp
  rw [hsA] at HCLN
  have HNZ := Lib.hid (zeroG_init HGI.out)
  clear hsA
  go_wp2_with fail
  refine HCLN.out.mono ?_
  rintro e w4 ⟨qv, rfl, hqv, hw4⟩
  have hw4' : Below (w2.alloc (.cells #[.slice (some ⟨gb, 0, none⟩) l.states.length cb] 26)).heap.size (w2.alloc (.cells #[.slice (some ⟨gb, 0, none⟩) l.states.length cb] 26)) w4 := by rw [World.size_alloc]; exact hw4
  have HO1 := Lib.hid (HO0.out.mono hw4')
  have HF1 := Lib.hid ((hw4'.block (w.heap.size + 1) (Array.getElem?_eq_some_iff.1 HF0.out).1).trans HF0.out)
  have HQV := Lib.hid hqv
  obtain ⟨QA, qc, rfl, _⟩ := owns_form hqv
  clear hqv hw4 hw4' HO0 HF0
  go_wp2_with fail
  generalize w2.heap.size = P at *
  generalize w1.heap.size + 1 = B1 at *
  generalize hOB : (Obj.cells #[.slice A l.states.length c, .slice B l.steps.length d] 32) = ob at HO1
  generalize hPB : (Obj.cells #[.slice (some ⟨gb, 0, none⟩) l.states.length cb] 26) = pb at HO1
  have HOB := Lib.hid hOB
  have HPB := Lib.hid hPB
  have HP0 := Lib.hid (fun W o (h : OutW w W ob pb P B1 gb l.states.length cb o) => show W.cell? ⟨P, 0, none⟩ = some (.slice (some ⟨gb, 0, none⟩) l.states.length cb) by
    have := h.cell
    rw [← HPB.out] at this
    exact cell_of_row _ _ _ _ _ _ this)
  have HX0 := Lib.hid (fun W o (h : OutW w W ob pb P B1 gb l.states.length cb o) => show W.cell? ⟨w.heap.size, 0, none⟩ = some (.slice A l.states.length c) ∧ W.cell? ⟨w.heap.size, 1, none⟩ = some (.slice B l.steps.length d) by
    have := h.box
    rw [← HOB.out] at this
    exact ⟨cell_of_row _ _ _ _ _ _ this, cell_of_row _ _ _ _ _ _ this⟩)
  clear hOB hPB y0
  go_loopw [35] (fun i wr => ∃ k : Nat, k ≤ g.length ∧ i = .int .i64 k ∧ OutW w wr ob pb P B1 gb l.states.length cb (zeroG (List.replicate l.states.length (-1)) (g.take k)) ∧ wr.ownsRow (P + 1) 3 1 (.slice QA g.length qc) g.length (ints g) ∧ wr.heap[w.heap.size + 1]? = some (.cells #[.int .i64 (ps : Int)] 3))
    (fun i _ => g.length - (intOf i).toNat)
  case atStart => exact ⟨0, Nat.zero_le _, rfl, HO1.out, HQV.out, HF1.out⟩
  case round =>
    clear HO1 HQV HF1
    obtain ⟨k, hk, rfl, hout, hqv, hfr⟩ := hrel
    have HO := Lib.hid hout
    have HQV := Lib.hid hqv
    have HF := Lib.hid hfr
    have q0 := HP0.out _ _ hout
    clear hout hqv hfr
    by_cases hlt : k < g.length
    · obtain ⟨j, ej, hj⟩ := HGI.out (g.getD k 0) (getD_mem hlt)
      obtain ⟨rb, ro, e, hc⟩ := (HG.out wr HO.out.below).int hlt
      cases e
      have ck := hc k hlt
      rw [ej] at ck
      have HNX := Lib.hid (zeroG_next (o := List.replicate l.states.length (-1)) hlt)
      have HEJ := Lib.hid ej
      clear hc ej
      generalize zeroG (List.replicate l.states.length (-1)) (g.take k) = o at *
      obtain ⟨c0, c1⟩ := HO.out.at_ hj
      have HN := Lib.hid (HO.out.set hj hne hB1 0)
      have HQN := Lib.hid (owns_set_low (u := Value.int .i64 0) (p := ⟨gb, j, none⟩) HQV.out (by show gb < P + 1; omega))
      have HFN := Lib.hid ((heap_setCell_other wr ⟨gb, j, none⟩ (w.heap.size + 1) (.int .i64 0) (by dsimp only; omega)).trans HF.out)
      generalize o.getD j 0 = y at *
      have b0 : (0 : Int) ≤ (k : Int) := by omega
      have b1 : (k : Int) < (g.length : Int) := by omega
      have b2 : (0 : Int) ≤ (j : Int) := by omega
      have b3 : (j : Int) < (l.states.length : Int) := by omega
      go_wp2_with fail
      go_roundw
      case rel => exact ⟨k + 1, by omega, by go_num, by rw [HNX.out, HEJ.out, Int.toNat_natCast]; exact HN.out, HQN.out, HFN.out⟩
      case measure => simp [intOf]; omega
    · obtain rfl : k = g.length := by omega
      rw [List.take_length, HNZ.out] at HO
      clear q0
      have HQ0 := Lib.hid (show 0 < g.length → TailR wr (P + 1) (.slice QA g.length qc) g from fun h => tail_of_owns HQV.out h)
      have HOW := Lib.hid (HO.out.row.lt gb rfl)
      go_wp2_with fail
      go_loopw [9] (fun u wr => ∃ (i : Nat) (A' : Option Addr) (c' : Nat) (qs : List Int), i ≤ (farAt l.states.length l.steps g i).2.length ∧ qs = (farAt l.states.length l.steps g i).2.drop i ∧ u = .slice A' qs.length c' ∧ (0 < qs.length → TailR wr (P + 1) u qs) ∧ OutW w wr ob pb P B1 gb l.states.length cb (farAt l.states.length l.steps g i).1 ∧ wr.heap[w.heap.size + 1]? = some (.cells #[.int .i64 (ps : Int)] 3))
        (fun u wr => 2 * negW wr gb l.states.length + lenOf u)
      case atStart => exact ⟨0, QA, qc, g, Nat.zero_le _, rfl, rfl, HQ0.out, HO.out, HF.out⟩
      case round =>
        clear HO HF HQV HQ0
        obtain ⟨i, A', c', qs, hil, hqs, rfl, htl, hout, hfr⟩ := hrel
        have HQS := Lib.hid hqs
        have HO := Lib.hid hout
        have HF := Lib.hid hfr
        have HTL := Lib.hid htl
        have HIL := Lib.hid hil
        have HLD := Lib.hid (show qs.length = (farAt l.states.length l.steps g i).2.length - i by rw [hqs]; exact List.length_drop)
        have HFN := Lib.hid (far_len HST.out HGP.out HGI.out hil)
        have HMW := Lib.hid (negW_eq hout.len (fun j hj => (hout.at_ hj).1))
        obtain ⟨x0, x1⟩ := HX0.out _ _ hout
        clear hout hfr htl hqs
        by_cases hq0 : 0 < qs.length
        · have hi' : i < (farAt l.states.length l.steps g i).2.length := by have := HLD.out; omega
          obtain ⟨u0, eu, hu0, _, _⟩ := far_base HST.out HGP.out HGI.out hi'
          have HMID := Lib.hid (fun j => far_mid HST.out HGP.out HGI.out hi' eu j)
          have HNX := Lib.hid (show farAt l.states.length l.steps g (i + 1) = l.steps.foldl (farStep u0) (farAt l.states.length l.steps g i) by rw [farAt_next hi', eu])
          have HLESS := Lib.hid (far_less HST.out HGP.out HGI.out hi')
          have HT0 := Lib.hid (HTL.out hq0)
          have hdl : qs.length ≤ 40 := by have := HLD.out; have := HFN.out; omega
          obtain ⟨wo, hwo⟩ : ∃ wo, wo = wr := ⟨_, rfl⟩
          subst hwo
          have hpos2 : decide (0 < qs.length) = true := decide_eq_true hq0
          go_wp2_with fail
          clear x0 x1
          go_loopw [9, 51] (fun u jj wr => ∃ (j : Nat) (qj : List Int), j ≤ l.steps.length ∧ jj = .int .i64 j ∧ qj = ((l.steps.take j).foldl (farStep u0) (farAt l.states.length l.steps g i)).2.drop i ∧ TailR wr (P + 1) u qj ∧ OutW w wr ob pb P B1 gb l.states.length cb ((l.steps.take j).foldl (farStep u0) (farAt l.states.length l.steps g i)).1 ∧ wr.heap[w.heap.size + 1]? = some (.cells #[.int .i64 (ps : Int)] 3))
            (fun _ jj _ => l.steps.length - (intOf jj).toNat)
          case atStart => exact ⟨0, qs, Nat.zero_le _, rfl, HQS.out, HT0.out, HO.out, HF.out⟩
          case round =>
            clear HO HF HT0 HTL
            obtain ⟨j, qj, hj, rfl, hqj, htl, hout, hfr⟩ := hrel
            obtain ⟨hf1, hf2, hf3, hf4, hf5⟩ := HMID.out j
            by_cases hjl : j < l.steps.length
            · have HST2 := Lib.hid (far_step_next (u := (u0 : Int)) (x := farAt l.states.length l.steps g i) hjl)
              obtain ⟨bb, oo, cc, e, h0, h1, h2⟩ := (HTV.out wr hout.below).at_ (List.getElem?_eq_getElem hjl)
              cases e
              obtain ⟨a, b, ha, hb, han, hbn⟩ := HST.out _ (List.getElem_mem hjl)
              generalize l.steps[j] = s at *
              obtain ⟨s1, s2, s3⟩ := s
              dsimp only at ha hb h0 h1 h2
              subst ha
              subst hb
              generalize (l.steps.take j).foldl (farStep u0) (farAt l.states.length l.steps g i) = xj at *
              have hdr : qj.length = xj.2.length - i := by rw [hqj]; exact List.length_drop
              obtain ⟨gq, oq, cq, rfl, hgq, hgq2, hcq, hqc⟩ := htl.cells
              have hq := hqc 0 (by omega)
              have hd0 : qj.getD 0 0 = (u0 : Int) := by rw [← hf3, hqj]; simp [List.getD]
              rw [hd0, Nat.add_zero] at hq
              have hA : Below wr.heap.size wr (wr.alloc (.cells #[.int .i64 (a : Int), .int .i64 s2, .int .i64 (b : Int)] 69)) := (Below.refl _ _).alloc (Nat.le_refl _) _
              have HOA := Lib.hid (hout.mono hA)
              have HTA := Lib.hid (htl.block (W' := wr.alloc (.cells #[.int .i64 (a : Int), .int .i64 s2, .int .i64 (b : Int)] 69)) (fun g' _ hg' => hA.block g' hg'))
              have HFA := Lib.hid ((hA.block (w.heap.size + 1) (Array.getElem?_eq_some_iff.1 hfr).1).trans hfr)
              have k0 := cell_below hA hq (lt_of_cell hq)
              have k1 := HP0.out _ _ HOA.out
              obtain ⟨k2, k3⟩ := HOA.out.at_ han
              obtain ⟨k4, k5⟩ := HOA.out.at_ hbn
              have e0 : (wr.alloc (.cells #[.int .i64 (a : Int), .int .i64 s2, .int .i64 (b : Int)] 69)).cell? ⟨wr.heap.size, 0, none⟩ = some (.int .i64 (a : Int)) := cell_of_row _ _ _ _ _ _ (heap_alloc_new _ _)
              have e2 : (wr.alloc (.cells #[.int .i64 (a : Int), .int .i64 s2, .int .i64 (b : Int)] 69)).cell? ⟨wr.heap.size, 2, none⟩ = some (.int .i64 (b : Int)) := cell_of_row _ _ _ _ _ _ (heap_alloc_new _ _)
              have HDEF := Lib.hid (show farStep (u0 : Int) xj ((a : Int), s2, (b : Int)) = if ((b : Int) == (u0 : Int) && decide (xj.1.getD a 0 < 0)) then (xj.1.set a (xj.1.getD b 0 + 1), xj.2 ++ [(a : Int)]) else xj by
                unfold farStep
                simp only [atI_nat, Int.toNat_natCast])
              have hzb := hf2 b
              have hlow := hf1.low b
              have hng := negs_le xj.1
              rw [hf1.len] at hng
              have HDS := Lib.hid (show (xj.2 ++ [(a : Int)]).drop i = qj ++ [(a : Int)] by rw [hqj]; exact List.drop_append_of_le_length (by omega))
              have HWP := Lib.hid (show P < wr.heap.size from (Array.getElem?_eq_some_iff.1 hout.cell).1)
              clear htl hout hfr hA hqc hd0 hq hf1 hf2 hf3
              have HLQ := Lib.hid hdr
              have b6 : (0 : Int) < (qj.length : Int) := by omega
              clear hdr
              have b0 : (0 : Int) ≤ (j : Int) := by omega
              have b1 : (j : Int) < (l.steps.length : Int) := by omega
              have b2 : (0 : Int) ≤ (a : Int) := by omega
              have b3 : (a : Int) < (l.states.length : Int) := by omega
              have b4 : (0 : Int) ≤ (b : Int) := by omega
              have b5 : (b : Int) < (l.states.length : Int) := by omega
              have HQ := Lib.hid hqj
              clear hqj
              obtain ⟨uz, huz⟩ : ∃ uz : Int, uz = (u0 : Int) := ⟨_, rfl⟩
              rw [← huz] at k0 HDEF HST2
              have HUZ := Lib.hid huz
              clear huz
              have HKX := Lib.hid (fun (h : farStep uz xj ((a : Int), s2, (b : Int)) = xj) => show qj = ((l.steps.take (j + 1)).foldl (farStep uz) (farAt l.states.length l.steps g i)).2.drop i ∧ OutW w (wr.alloc (.cells #[.int .i64 (a : Int), .int .i64 s2, .int .i64 (b : Int)] 69)) ob pb P B1 gb l.states.length cb ((l.steps.take (j + 1)).foldl (farStep uz) (farAt l.states.length l.steps g i)).1 by
                rw [HST2.out, h]
                exact ⟨HQ.out, HOA.out⟩)
              cases hbu : ((b : Int) == uz)
              · rw [hbu, Bool.false_and, if_neg Bool.false_ne_true] at HDEF
                have HK2 := Lib.hid (HKX.out HDEF.out)
                rw [HUZ.out] at HK2
                go_wp2_with fail
                go_quiet (fail)
                go_wp2_with fail
                go_roundw
                case rel => exact ⟨j + 1, qj, by omega, by go_num, HK2.out.1, HTA.out.heap rfl, HK2.out.2.same rfl rfl rfl rfl, HFA.out⟩
                case measure => simp [intOf]; omega
              rw [hbu, Bool.true_and] at HDEF
              have HSETW := Lib.hid (fun y => HOA.out.set han hne hB1 y)
              have HTSET := Lib.hid (fun y => HTA.out.set_low (u := Value.int .i64 y) (p := ⟨gb, a, none⟩) (by show gb < P + 1; omega))
              have HFSET := Lib.hid (fun y => (heap_setCell_other (wr.alloc (.cells #[.int .i64 (a : Int), .int .i64 s2, .int .i64 (b : Int)] 69)) ⟨gb, a, none⟩ (w.heap.size + 1) (Value.int .i64 y) (by dsimp only; omega)).trans HFA.out)
              have HX1 := Lib.hid (show xj.1.length = l.states.length from HOA.out.len)
              generalize xj.1.getD b 0 = z at *
              generalize hya : xj.1.getD a 0 = y at *
              clear hya
              by_cases hy : y < 0
              case neg =>
                rw [decide_eq_false hy, if_neg Bool.false_ne_true] at HDEF
                have hyd : decide (y < 0) = false := decide_eq_false hy
                have HK2 := Lib.hid (HKX.out HDEF.out)
                rw [HUZ.out] at HK2
                go_wp2_with fail
                go_quiet (fail)
                go_wp2_with fail
                go_roundw
                case rel => exact ⟨j + 1, qj, by omega, by go_num, HK2.out.1, HTA.out.heap rfl, HK2.out.2.same rfl rfl rfl rfl, HFA.out⟩
                case measure => simp [intOf]; omega
              rw [decide_eq_true hy, if_pos rfl] at HDEF
              have hyd : decide (y < 0) = true := decide_eq_true hy
              have HNX2 := Lib.hid (HST2.out.trans HDEF.out)
              rw [HUZ.out] at HNX2
              clear HKX HSETW HTSET HFSET
              go_wp2_with fail
              go_quiet (fail)
              go_wp2_with fail
              generalize hW2 : World.drewN (wr.alloc (.cells #[.int .i64 (a : Int), .int .i64 s2, .int .i64 (b : Int)] 69)) _ = W2
              have HS2 := Lib.hid (show OutW w W2 ob pb P B1 gb l.states.length cb xj.1 from by rw [← hW2]; exact HOA.out.same rfl rfl rfl rfl)
              have HT2 := Lib.hid (show TailR W2 (P + 1) (.slice (some ⟨gq, oq, none⟩) qj.length cq) qj from by rw [← hW2]; exact HTA.out.heap rfl)
              have HF2 := Lib.hid (show W2.heap[w.heap.size + 1]? = some (.cells #[.int .i64 (ps : Int)] 3) from by rw [← hW2]; exact HFA.out)
              have HSZ2 := Lib.hid (show W2.heap.size = wr.heap.size + 1 from by rw [← hW2]; show (wr.alloc _).heap.size = _; simp)
              have k1 : W2.cell? ⟨P, 0, none⟩ = some (.slice (some ⟨gb, 0, none⟩) l.states.length cb) := by rw [← hW2]; exact k1
              have k2 : W2.cell? ⟨gb, a, none⟩ = some (.int .i64 y) := by rw [← hW2]; exact k2
              have k3 : W2.frozen? ⟨gb, a, none⟩ = false := by rw [← hW2]; exact k3
              have k4 : W2.cell? ⟨gb, b, none⟩ = some (.int .i64 z) := by rw [← hW2]; exact k4
              have e0 : W2.cell? ⟨wr.heap.size, 0, none⟩ = some (.int .i64 (a : Int)) := by rw [← hW2]; exact e0
              have e2 : W2.cell? ⟨wr.heap.size, 2, none⟩ = some (.int .i64 (b : Int)) := by rw [← hW2]; exact e2
              have HS3 := Lib.hid (HS2.out.set han hne hB1 (z + 1))
              have HT3 := Lib.hid (HT2.out.set_low (u := Value.int .i64 (z + 1)) (p := ⟨gb, a, none⟩) (by show gb < P + 1; omega))
              have HF3 := Lib.hid ((heap_setCell_other W2 ⟨gb, a, none⟩ (w.heap.size + 1) (Value.int .i64 (z + 1)) (by dsimp only; omega)).trans HF2.out)
              have hwr : IntKind.i64.wrap (z + 1) = z + 1 := IntWalk.i64_in _ (by omega)
              clear hW2 k0 k5 HOA HTA HFA
              refine wp_region_still_tail 10 (by kernel_rfl) (by kernel_rfl) ?_
              simp only [List.take_succ_cons, List.take_zero, List.drop_succ_cons, List.drop_zero]
              repeat still_step
              refine wpStill_nil ?_
              clear hwr
              change wpList _ _ _ _ _ W2.drew
              go_wp2_with (at_builtin; refine wpList_append_tail _ rfl _ _ 26 rfl i0 (.int .i64 0) Try.underlying26 hi hz0 hz1 hz2 rfl (P + 1) _ qj rfl (HT3.out.alloc _ rfl) ?hB ⟨W2.heap.size, 0, none⟩ (a : Int) 1 rfl ?c1 ?hm ?hK)
              case hB => have := HWP.out; have := HSZ2.out; simp [World.setCell]; omega
              case c1 => exact new_cell1 _ _ _ (by show (W2.setCell _ _).heap.size = _; simp [World.setCell])
              case hm => have := HLQ.out; omega
              intro v' w' row ht hg hrow
              have hS4 : OutW w ((W2.setCell ⟨gb, a, none⟩ (.int .i64 (z + 1))).drew.alloc (.cells #[.int .i64 (a : Int)] 3)) ob pb P B1 gb l.states.length cb (xj.1.set a (z + 1)) := (HS3.out.same (W' := (W2.setCell ⟨gb, a, none⟩ (.int .i64 (z + 1))).drew) rfl rfl rfl rfl).mono ((Below.refl _ _).alloc (Nat.le_refl _) _)
              have hF4 : ((W2.setCell ⟨gb, a, none⟩ (.int .i64 (z + 1))).drew.alloc (.cells #[.int .i64 (a : Int)] 3)).heap[w.heap.size + 1]? = some (.cells #[.int .i64 (ps : Int)] 3) := (heap_alloc_old _ _ (by show _ < (W2.setCell _ _).heap.size; simp [World.setCell]; have := HWP.out; have := HSZ2.out; omega)).trans HF3.out
              have HS5 := Lib.hid (hS4.grown hg hrow (by omega) (by omega))
              have HF5 := Lib.hid ((hg.block (w.heap.size + 1) (Array.getElem?_eq_some_iff.1 hF4).1 (fun e => by have := hrow _ e.symm; omega)).trans hF4)
              have HT5 := Lib.hid ht
              have HE5 := Lib.hid (show qj ++ [(a : Int)] = ((l.steps.take (j + 1)).foldl (farStep u0) (farAt l.states.length l.steps g i)).2.drop i by rw [HNX2.out]; exact HDS.out.symm)
              clear hS4 hF4 ht hg hrow
              go_wp2_with fail
              go_roundw
              case rel => exact ⟨j + 1, _, by omega, by go_num, HE5.out, HT5.out, by rw [HNX2.out]; exact HS5.out, HF5.out⟩
              case measure => simp [intOf]; omega
            · obtain rfl : j = l.steps.length := by omega
              rw [List.take_length, ← HNX.out] at hqj hout hf4 hf5
              obtain ⟨gq, oq, cq, rfl, hgq, hgq2, hcq, hqc⟩ := htl.cells
              have hql : qj.length = (farAt l.states.length l.steps g (i + 1)).2.length - i := by rw [hqj]; exact List.length_drop
              have HQN := Lib.hid (show qj.drop 1 = (farAt l.states.length l.steps g (i + 1)).2.drop (i + 1) by rw [hqj, List.drop_drop])
              have HQL := Lib.hid (show (qj.drop 1).length = qj.length - 1 from List.length_drop)
              have HM2 := Lib.hid (negW_eq hout.len (fun j hj => (hout.at_ hj).1))
              have HO5 := Lib.hid hout
              have HF5 := Lib.hid hfr
              have HTL5 := Lib.hid htl
              have HI4 := Lib.hid hf4
              have HQJ := Lib.hid hql
              have b1 : (1 : Int) ≤ (qj.length : Int) := by omega
              have b2 : (1 : Int) ≤ (cq : Int) := by omega
              have b3 : 1 ≤ qj.length := by omega
              have b4 : 1 ≤ cq := by omega
              have hcq2 : qj.length ≤ cq := hcq
              clear hqj hout hfr htl hqc hql hf4 hf5 hf1 hf2 hf3
              by_cases hc1 : cq = 1
              · subst hc1
                have HQ1 := Lib.hid (show (qj.drop 1).length = 0 by rw [HQL.out]; omega)
                go_wp2_with fail
                go_roundw
                case rel => exact ⟨i + 1, _, _, qj.drop 1, HI4.out, HQN.out, by rw [HQ1.out], fun h => by have := HQ1.out; omega, HO5.out, HF5.out⟩
                case measure =>
                  have h1 := HM2.out
                  have h2 := HMW.out
                  have h3 := HLESS.out
                  have h4 := HLD.out
                  have h5 := HQJ.out
                  show 2 * negW _ gb l.states.length + 0 < 2 * negW _ gb l.states.length + qs.length
                  omega
              · have HDR := Lib.hid (HTL5.out.drop (by omega) hc1)
                have hc2 : ((cq : Int) == 1) = false := by rw [beq_eq_false_iff_ne]; omega
                go_wp2_with fail
                go_roundw
                case rel => exact ⟨i + 1, _, _, qj.drop 1, HI4.out, HQN.out, by rw [HQL.out], fun h => HDR.out, HO5.out, HF5.out⟩
                case measure =>
                  have h1 := HM2.out
                  have h2 := HMW.out
                  have h3 := HLESS.out
                  have h4 := HLD.out
                  have h5 := HQJ.out
                  show 2 * negW _ gb l.states.length + (qj.length - 1) < 2 * negW _ gb l.states.length + qs.length
                  omega
        · have hie : i = (farAt l.states.length l.steps g i).2.length := by have := HLD.out; omega
          have hfd := far_done HST.out HGP.out HGI.out hie
          have HO2 := Lib.hid (show OutW w wr ob pb P B1 gb l.states.length cb (farL l g) by have := HO.out; rw [hfd] at this; exact this)
          have HUP := Lib.hid (show Up l.states.length (farL l g) by have := up_farAt HST.out HGP.out HGI.out i (by omega); rw [hfd] at this; exact this)
          have HOK := Lib.hid (show FarOK l.states.length l.steps g (farL l g) from far_ok HST.out HGP.out HGI.out)
          have q1 := HP0.out _ _ HO2.out
          have q2 : wr.cell? ⟨w.heap.size + 1, 0, none⟩ = some (.int .i64 (ps : Int)) := cell_of_row _ _ _ _ _ _ HF.out
          obtain ⟨q3, _⟩ := HO2.out.at_ hpl
          have hqn : ¬ 0 < qs.length := hq0
          have hpos2 : decide (0 < qs.length) = false := decide_eq_false hq0
          have HE3 := Lib.hid (show atI (farL l g) (ps : Int) = (farL l g).getD ps 0 from atI_nat _ _)
          rw [HE3.out] at E2
          have HSL := Lib.hid (show okShort l (ps : Int) g = true → shortL l (ps : Int) g = wayL l.steps (farL l g) ((farL l g).getD ps 0).toNat (ps : Int) from fun h => by unfold shortL; rw [if_pos h, HE3.out])
          have HY := Lib.hid (fun (m : Nat) (h : (farL l g).getD ps 0 = (m : Int)) => way_len HST.out HOK.out m ps hpl h)
          have b0 : (0 : Int) ≤ (ps : Int) := by omega
          have b1 : (ps : Int) < (l.states.length : Int) := by omega
          clear HO HTL HMW hie hfd
          have hmo : (farL l g).getD ps 0 ≤ 40 := by have := HUP.out ps; omega
          generalize hfy : (farL l g).getD ps 0 = y at *
          have HFY := Lib.hid hfy
          clear hfy
          by_cases hy : y < 0
          · have E3 := Lib.hid (show okShort l (ps : Int) g = false by rw [E2.out, decide_eq_true hy]; rfl)
            have E1 := Lib.hid (show shortL l (ps : Int) g = [] by unfold shortL; rw [E3.out]; rfl)
            have HZZ := Lib.hid HO2.out.below
            go_wp2_with fail
            go_ret2
            rw [E1.out, E3.out]
            exact ⟨_, rfl, World.ownsRow_nil _ _ _ _, HZZ.out⟩
          have E3 := Lib.hid (show okShort l (ps : Int) g = true by rw [E2.out, decide_eq_false hy]; rfl)
          obtain ⟨m0, rfl⟩ := Int.eq_ofNat_of_zero_le (show 0 ≤ y by omega)
          have E1 := Lib.hid (show shortL l (ps : Int) g = wayL l.steps (farL l g) m0 (ps : Int) by rw [HSL.out E3.out, Int.toNat_natCast])
          have HLN := Lib.hid (show (shortL l (ps : Int) g).length ≤ 40 by rw [E1.out, HY.out m0 rfl]; omega)
          have HOW0 := Lib.hid (show (wr.alloc (.cells #[] 69)).ownsRow wr.heap.size 69 3 (.slice (some ⟨wr.heap.size, 0, none⟩) 0 0) 0 [] from World.ownsRow_made wr #[] 0 (Nat.le_refl _) (Nat.zero_le _) rfl)
          have HOZ := Lib.hid (HO2.out.mono ((Below.refl _ _).alloc (Nat.le_refl _) (.cells #[] 69)))
          have HFZ := Lib.hid ((heap_alloc_old wr (.cells #[] 69) (Array.getElem?_eq_some_iff.1 HF.out).1).trans HF.out)
          have HPW := Lib.hid (show P < wr.heap.size from (Array.getElem?_eq_some_iff.1 HO2.out.cell).1)
          obtain ⟨wz, hwz⟩ : ∃ wz, wz = wr := ⟨_, rfl⟩
          subst hwz
          have HOT := Lib.hid (fun W (o : List Int) (h : OutW w W ob pb P B1 gb l.states.length cb o) (q : Nat) => show OutW w (W.setCell ⟨w.heap.size + 1, 0, none⟩ (.int .i64 (q : Int))) ob pb P B1 gb l.states.length cb o from
            ⟨owns_set_low h.row (by show w.heap.size + 1 < B1; omega), h.len, (heap_setCell_other _ _ _ _ (by dsimp only; omega)).trans h.cell, (heap_setCell_other _ _ _ _ (by dsimp only; omega)).trans h.box, h.below.setCell (p := ⟨w.heap.size + 1, 0, none⟩) (by show w.heap.size ≤ w.heap.size + 1; omega) _⟩)
          have HBW := Lib.hid (show w.heap.size + 1 < wz.heap.size by have := HPW.out; omega)
          obtain ⟨j0, hj0, hy0, hy1, hy2⟩ := info_parts info_fa
          go_wp2_with fail
          go_loopw [14] (fun u wr => ∃ (m q : Nat) (ws : List I3), q < l.states.length ∧ (farL l g).getD q 0 = (m : Int) ∧ shortL l (ps : Int) g = ws ++ wayL l.steps (farL l g) m (q : Int) ∧ wr.ownsRow wz.heap.size 69 3 u ws.length (ws.flatMap tri) ∧ OutW w wr ob pb P B1 gb l.states.length cb (farL l g) ∧ wr.heap[w.heap.size + 1]? = some (.cells #[.int .i64 (q : Int)] 3) ∧ wz.heap.size ≤ wr.heap.size)
            (fun u wr => numW wr (w.heap.size + 1) gb)
          case atStart => exact ⟨m0, ps, [], hpl, HFY.out, by rw [E1.out]; rfl, HOW0.out, HOZ.out, HFZ.out, by simp⟩
          case round =>
            clear HOW0 HOZ HFZ HF
            obtain ⟨m, q, ws, hqn', hfq, hsh, hown, hout, hfr, hsz⟩ := hrel
            obtain ⟨AO, cO, rfl, hown⟩ := owns_form hown
            have HO := Lib.hid hown
            have HOU := Lib.hid hout
            have HF := Lib.hid hfr
            have HSH := Lib.hid hsh
            have HQN' := Lib.hid hqn'
            have r1 := HP0.out _ _ hout
            have r2 : wr.cell? ⟨w.heap.size + 1, 0, none⟩ = some (.int .i64 (q : Int)) := cell_of_row _ _ _ _ _ _ hfr
            obtain ⟨r3, _⟩ := hout.at_ hqn'
            rw [hfq] at r3
            have HR2 := Lib.hid r2
            have HR3 := Lib.hid r3
            have HSZ := Lib.hid hsz
            have HFQ := Lib.hid hfq
            have b2 : (0 : Int) ≤ (q : Int) := by omega
            have b3 : (q : Int) < (l.states.length : Int) := by omega
            have hwl : ws.length ≤ 40 := by have := congrArg List.length hsh; rw [List.length_append] at this; have := HLN.out; omega
            clear hown hout hfr hsh hsz hfq q1 q2 q3
            cases m with
            | zero =>
              have HE := Lib.hid (show shortL l (ps : Int) g = ws by rw [HSH.out]; exact List.append_nil _)
              have HR := Lib.hid (owns_mono HO.out (Nat.le_trans (Nat.le_succ _) (Nat.le_of_lt HBW.out)))
              have HZZ := Lib.hid HOU.out.below
              go_wp2_with fail
              go_ret2
              rw [E3.out, HE.out]
              exact ⟨_, rfl, HR.out, HZZ.out⟩
            | succ m =>
              have hmn : m + 1 ≤ 40 := by have := HUP.out q; have := HFQ.out; omega
              obtain ⟨s, hs1, hs2, hs3, hs4⟩ := near_some HST.out HOK.out HQN'.out (by rw [HFQ.out]; omega)
              obtain ⟨k, hk1, hk2, hk3⟩ := find_idx hs1
              obtain ⟨a, b, ha, hb, han, hbn⟩ := HST.out s hs2
              have hfb : (farL l g).getD b 0 = (m : Int) := by
                rw [hb, atI_nat, HFQ.out] at hs4
                omega
              have HWN := Lib.hid (way_next (k := m) hs1)
              obtain ⟨x0', x1'⟩ := HX0.out _ _ HOU.out
              have HIF := Lib.hid (show Calls Try.prog 53 #[.slice B l.steps.length d, .func (.func 54) #[] #[.pointer (some ⟨w.heap.size + 1, 0, none⟩), .pointer (some ⟨P, 0, none⟩)]] wr (fun e w' => e = .returned (.int .i64 (k : Int)) ∧ Below wr.heap.size wr w') from by
                rw [← hk1]
                refine indexFuncT_any (.slice B l.steps.length d) l.steps 54 #[.pointer (some ⟨w.heap.size + 1, 0, none⟩), .pointer (some ⟨P, 0, none⟩)] _ wr hsn2 (HTV.out _ HOU.out.below) (enter_of Try.func54 (by kernel_rfl) (by kernel_rfl)) (fun k' x W hk' hbW => ?_)
                obtain ⟨a', b', ha', hb', han', hbn'⟩ := HST.out x (List.mem_of_getElem? hk')
                have hW := HOU.out.mono hbW
                have := wayClosure_any (farL l g) l.states.length gb cb q b' x (w.heap.size + 1) P W l2 HOK.out.len HQN'.out hb' hbn' (fun i => by have := HUP.out i; omega) HOK.out.low (cell_below hbW HR2.out (lt_of_cell HR2.out)) (HP0.out _ _ hW) (fun j hj => (hW.at_ hj).1)
                have hgd : l.steps.getD k' (0, 0, 0) = x := by simp [List.getD, hk']
                rw [hgd]
                exact this)
              have HST5 := Lib.hid (show l.steps[k]? = some ((a : Int), s.2.1, (b : Int)) by rw [List.getElem?_eq_getElem hk2, hk3, ← ha, ← hb])
              have HSE := Lib.hid (show s = ((a : Int), s.2.1, (b : Int)) by rw [← ha, ← hb])
              have b4 : (0 : Int) ≤ (k : Int) := by omega
              have b5 : (k : Int) < (l.steps.length : Int) := by omega
              have b6 : (0 : Int) < ((m + 1 : Nat) : Int) := by omega
              have HFB := Lib.hid hfb
              have HBN := Lib.hid hbn
              clear hk1 hk3 hs1 hs2 hs3 hs4 ha hb hfb hbn han
              generalize s.2.1 = s2 at *
              go_wp2_with fail
              refine HIF.out.mono ?_
              rintro er w5 ⟨rfl, hw5⟩
              have HOU5 := Lib.hid (HOU.out.mono hw5)
              have HF5 := Lib.hid ((hw5.block (w.heap.size + 1) (Array.getElem?_eq_some_iff.1 HF.out).1).trans HF.out)
              obtain ⟨y0', y1'⟩ := HX0.out _ _ HOU5.out
              obtain ⟨bb, oo, cc, ev, h0, h1, h2⟩ := (HTV.out w5 HOU5.out.below).at_ HST5.out
              cases ev
              have HO5 := Lib.hid (owns_below HO.out hw5 (Nat.le_refl _))
              have HSZ5 := Lib.hid (Nat.le_trans HSZ.out hw5.size)
              clear hw5 r1 r2 r3 x0' x1'
              dsimp only at h0 h1 h2
              go_wp2_with (at_builtin; refine wpList_append_own _ rfl _ _ 23 rfl wz.heap.size 69 j0 (.agg #[.int .i64 0, .int .i64 0, .int .i64 0]) 3 24 Try.underlying23 hj0 hy0 hy1 hy2 rfl (by decide) _ _ _ rfl (HO5.out.alloc _) ⟨w5.heap.size, 0, none⟩ 1 1 (tri ((a : Int), s2, (b : Int))) rfl rfl ?c1 ?c2 ?c3 ?c4 ?c5 ?_)
              case c1 => intro j u hj; match j, hj with | 0, hj | 1, hj | 2, hj => (simp [tri] at hj; subst hj; simp [Addr.add])
              case c2 => intro u hu; simp [tri] at hu; rcases hu with rfl | rfl | rfl <;> rfl
              case c3 => unfold maxLen; omega
              case c4 => omega
              case c5 => have := HSZ5.out; simp; omega
              intro v2 w6 hown6 hgrow6 _
              have hbz := HBW.out
              have hpz := HPW.out
              have hrow6 : ∀ q, (Value.slice AO ws.length cO).ownBlock = some q → P + 1 ≤ q := fun q hq => by have := (HO5.out.lt q hq).1; omega
              have hou6 := (HOU5.out.mono ((Below.refl w5.heap.size w5).alloc (Nat.le_refl _) (.cells #[.int .i64 (a : Int), .int .i64 s2, .int .i64 (b : Int)] 69))).grown hgrow6 hrow6 (by omega) (by omega)
              have hf5 := (heap_alloc_old w5 (.cells #[.int .i64 (a : Int), .int .i64 s2, .int .i64 (b : Int)] 69) (Array.getElem?_eq_some_iff.1 HF5.out).1).trans HF5.out
              have hf6 := (hgrow6.block (w.heap.size + 1) (Array.getElem?_eq_some_iff.1 hf5).1 (fun e => by have := hrow6 _ e.symm; omega)).trans hf5
              have HF7 := Lib.hid (heap_setCell_same w6 (w.heap.size + 1) 0 _ _ (.int .i64 (b : Int)) hf6)
              have HOU7 := Lib.hid (HOT.out _ _ hou6 b)
              have hln6 : ws.length + 1 = (ws ++ [((a : Int), s2, (b : Int))]).length := by simp
              have hfl6 : ws.flatMap tri ++ tri ((a : Int), s2, (b : Int)) = (ws ++ [((a : Int), s2, (b : Int))]).flatMap tri := by simp
              rw [hln6, hfl6] at hown6
              have HO7 := Lib.hid (owns_set_low (p := ⟨w.heap.size + 1, 0, none⟩) (u := .int .i64 (b : Int)) hown6 (by dsimp only; omega))
              have s0 : w6.cell? ⟨w.heap.size + 1, 0, none⟩ = some (.int .i64 (q : Int)) := cell_of_row _ _ _ _ _ _ hf6
              have s1 : w6.frozen? ⟨w.heap.size + 1, 0, none⟩ = false := frozen_of_row _ _ _ _ _ hf6
              have HSZ7 := Lib.hid (show wz.heap.size ≤ (w6.setCell ⟨w.heap.size + 1, 0, none⟩ (.int .i64 (b : Int))).heap.size by
                have a1 := hgrow6.size
                have a2 := HSZ5.out
                simp only [World.size_alloc] at a1
                simp [World.setCell]
                omega)
              obtain ⟨z0', z1'⟩ := HX0.out _ _ hou6
              obtain ⟨_, _, _, ev, h0, h1, h2⟩ := (HTV.out w6 hou6.below).at_ HST5.out
              cases ev
              dsimp only at h0 h1 h2
              have HSH7 := Lib.hid (show shortL l (ps : Int) g = (ws ++ [((a : Int), s2, (b : Int))]) ++ wayL l.steps (farL l g) m (b : Int) by
                rw [HSH.out, HWN.out, HSE.out]
                simp)
              clear hown6 hgrow6 hou6 hf5 hf6 hrow6 hln6 hfl6 y0' y1'
              go_wp2_with fail
              go_roundw
              case rel => exact ⟨m, b, _, HBN.out, HFB.out, HSH7.out, HO7.out, HOU7.out, HF7.out, HSZ7.out⟩
              case measure =>
                have a1 : numW wr (w.heap.size + 1) gb = m + 1 := by
                  unfold numW
                  rw [HR2.out]
                  simp only [Int.toNat_natCast]
                  rw [HR3.out]
                  simp only [Int.toNat_natCast]
                have a2 : numW (w6.setCell ⟨w.heap.size + 1, 0, none⟩ (.int .i64 (b : Int))) (w.heap.size + 1) gb = m := by
                  have c1 := cell_of_row _ _ 0 _ _ _ HF7.out
                  have c2 := (HOU7.out.at_ HBN.out).1
                  rw [HFB.out] at c2
                  unfold numW
                  rw [show (w6.setCell ⟨w.heap.size + 1, 0, none⟩ (.int .i64 (b : Int))).cell? ⟨w.heap.size + 1, 0, none⟩ = some (.int .i64 (b : Int)) from c1]
                  simp only [Int.toNat_natCast]
                  rw [c2]
                  simp only [Int.toNat_natCast]
                omega

end Go.Proofs.Ytlgdmafgbmnjdaa
