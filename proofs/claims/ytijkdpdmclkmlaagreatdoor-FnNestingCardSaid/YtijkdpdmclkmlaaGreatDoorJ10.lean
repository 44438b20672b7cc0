/- A region that draws its order: told slot by slot, with one fact over all that has come up; an element put into a row (three appends). No program is in sight. append of a slice that is read, nil or not, to a row of one's own. No program is in sight. -/
import Derived.Test.YtijkdpdmclkmlaaGreatDoorJ1
import Derived.Test.YtijkdpdmclkmlaaGreatDoorJ2
import Derived.Test.YtijkdpdmclkmlaaGreatDoorJ9
import Derived.Test.YtijkdpdmclkmlaaGreatDoorProg
import Derived.Maps.AppendAt
set_option linter.unusedSimpArgs false
set_option linter.unusedVariables false
set_option maxRecDepth 100000
set_option maxHeartbeats 16000000
namespace Go.Proofs.YtijkdpdmclkmlaaGreatDoor
open Go.RowKit
def updV (V : Nat → Value) (q : Nat) (v : Value) : Nat → Value := fun j => if j = q then v else V j
theorem updV_same (V : Nat → Value) (q : Nat) (v : Value) : updV V q v q = v := by simp [updV]
theorem updV_other {V : Nat → Value} {q j : Nat} {v : Value} (h : j ≠ q) : updV V q v j = V j := by simp [updV, h]

section
variable {P : Program} {Q : Exit → Act → World → Prop} {id : Nat} {ops : Array Oper} {a : Act} {w : World} {slots : List (Option Tmp)}

structure FJ (ops : Array Oper) (slots : List (Option Tmp)) (a : Act) (S : Nat → Value → Prop) (F : (Nat → Bool) → (Nat → Value) → World → Prop) (L : Nat → Bool) (V : Nat → Value) (act : Act) (W : World) : Prop where
  df : act.defers = a.defers
  sz : act.tmps.size = a.tmps.size
  nd : nodupO slots = true
  out : ∀ s, (∀ q, L q = true → slots[q]? ≠ some (some s)) → act.tmps[s]? = a.tmps[s]?
  has : ∀ q s, L q = true → slots[q]? = some (some s) → act.tmps[s]? = some (V q)
  s : ∀ q, L q = true → S q (V q)
  f : F L V W

theorem FJ.outN {S : Nat → Value → Prop} {F : (Nat → Bool) → (Nat → Value) → World → Prop} {L : Nat → Bool} {V : Nat → Value} {act : Act} {W : World} (h : FJ ops slots a S F L V act W) (s : Tmp) (hs : some s ∉ slots) : act.tmps[s]? = a.tmps[s]? := h.out s fun q _ e => hs (List.mem_of_getElem? e)
/-- A slot that one operation writes, ahead of that one. -/
theorem FJ.old {S : Nat → Value → Prop} {F : (Nat → Bool) → (Nat → Value) → World → Prop} {L : Nat → Bool} {V : Nat → Value} {act : Act} {W : World} (h : FJ ops slots a S F L V act W) {qa : Nat} {s : Tmp} (hs : slots[qa]? = some (some s)) (hn : L qa = false) : act.tmps[s]? = a.tmps[s]? := h.out s fun q hq e => by
  have := nodupO_at h.nd e hs
  subst this
  rw [hq] at hn
  cases hn
theorem FJ.val {S : Nat → Value → Prop} {F : (Nat → Bool) → (Nat → Value) → World → Prop} {L : Nat → Bool} {V : Nat → Value} {act : Act} {W : World} {v : Value} (h : FJ ops slots a S F L V act W) {q : Nat} {s : Tmp} (hq : L q = true) (hs : slots[q]? = some (some s)) (hv : ∀ u, S q u → u = v) : act.tmps[s]? = some v := by
  rw [h.has q s hq hs, hv _ (h.s q hq)]

theorem wp_region_fill (hm : P.follows .mixedOrders = true) (slots : List (Option Tmp)) (S : Nat → Value → Prop) (F : (Nat → Bool) → (Nat → Value) → World → Prop)
    (hsl : ops.toList.map (·.dst) = slots) (hok : slotsOk ops slots a.tmps.size = true) (h0 : ∀ V, F (fun _ => false) V w.drew)
    (step : ∀ (L : Nat → Bool) (V : Nat → Value) (act : Act) (W : World) (q : Nat) (o : Oper), FJ ops slots a S F L V act W → DC ops L → L q = false → ops[q]? = some o → (∀ e ∈ o.after, Region.binds .any e = true → L e.on = true) →
      ∀ K' : Act → World → Prop, (∀ v W', S q v → F (upd L q) (updV V q v) W' → K' (act.put o.dst v) W') → if Region.wanted o (yielded ops act.tmps) = true then Oper.wp P o act W K' Q else K' (act.put o.dst undef) W)
    (fin : ∀ (L : Nat → Bool) (V : Nat → Value) (W : World), (∀ q, q < ops.size → L q = true) → (∀ q, q < ops.size → S q (V q)) → F L V W → Q .normal ⟨layV V 0 slots a.tmps, a.defers⟩ W) :
    (Code.region id ops true).wp P Q a w := by
  unfold slotsOk at hok
  simp only [Bool.and_eq_true] at hok
  obtain ⟨⟨hnd, hin⟩, hearly⟩ := hok
  have hlen : slots.length = ops.size := by rw [← hsl]; simp
  have hslot : ∀ (q : Nat) (o : Oper), ops[q]? = some o → slots[q]? = some o.dst := fun q o ho => by
    rw [← hsl, List.getElem?_map, Array.getElem?_toList, ho]; rfl
  have hear : ∀ (k : Nat) (o : Oper), ops[k]? = some o → ∀ e ∈ o.after, Region.binds .any e = true → e.on < k := fun k o ho e he hb => by
    have hk := (Array.getElem?_eq_some_iff.1 ho).1
    have h1 := hearly
    unfold earlyB at h1
    rw [List.all_eq_true] at h1
    have h2 := h1 k (List.mem_range.2 hk)
    rw [List.all_eq_true] at h2
    have h3 := h2 e (by rw [Array.getD_eq_getD_getElem?, ho]; exact Array.mem_toList_iff.2 he)
    rw [hb] at h3
    simpa using h3
  refine wp_region_dc hm (fun L act W => ∃ V, FJ ops slots a S F L V act W) ?_ ?_ ?_
  · exact ⟨fun _ => undef, { df := rfl, sz := rfl, nd := hnd, out := fun _ _ => rfl, has := fun _ _ h => (nomatch h), s := fun _ h => (nomatch h), f := h0 _ }⟩
  · rintro L act W q o ⟨V, hJ⟩ hC hL ho hd K' hK'
    refine step L V act W q o hJ hC hL ho hd K' fun v W' hs hf => hK' _ _ ⟨updV V q v, ?_⟩
    have hsq := hslot q o ho
    refine { df := ?_, sz := ?_, nd := hnd, out := fun s hs' => ?_, has := fun e s he hs' => ?_, s := fun e he => ?_, f := hf }
    · cases hdst : o.dst with
      | none => exact hJ.df
      | some d => exact hJ.df
    · cases hdst : o.dst with
      | none => exact hJ.sz
      | some d => show (act.tmps.setIfInBounds d v).size = _; rw [Array.size_setIfInBounds]; exact hJ.sz
    · cases hdst : o.dst with
      | none =>
        refine hJ.out s fun e he => hs' e ?_
        by_cases heq : e = q
        · rw [heq, upd_same]
        rw [upd_other heq]; exact he
      | some d =>
        rw [hdst] at hsq
        have hne : d ≠ s := fun h => hs' q (upd_same _ _) (by rw [hsq, h])
        show (act.tmps.setIfInBounds d v)[s]? = _
        rw [Array.getElem?_setIfInBounds_ne hne]
        refine hJ.out s fun e he => hs' e ?_
        by_cases heq : e = q
        · rw [heq, upd_same]
        rw [upd_other heq]; exact he
    · by_cases heq : e = q
      · subst heq
        rw [hsq] at hs'
        injection hs' with hs'
        rw [updV_same, hs']
        show (act.tmps.setIfInBounds s v)[s]? = _
        exact Array.getElem?_setIfInBounds_self_of_lt (by rw [hJ.sz]; exact inO_at hin (by rw [hsq, hs']))
      rw [upd_other heq] at he
      rw [updV_other heq]
      have hu := hJ.has e s he hs'
      cases hdst : o.dst with
      | none => exact hu
      | some d =>
        rw [hdst] at hsq
        have hne2 : d ≠ s := fun h => by subst h; exact heq (nodupO_at hnd hs' hsq)
        show (act.tmps.setIfInBounds d v)[s]? = _
        rw [Array.getElem?_setIfInBounds_ne hne2]
        exact hu
    by_cases heq : e = q
    · subst heq
      rw [updV_same]; exact hs
    rw [upd_other heq] at he
    rw [updV_other heq]; exact hJ.s e he
  rintro L act W ⟨V, hJ⟩ hfin
  have hall : ∀ n q, q < n → q < ops.size → L q = true := by
    intro n
    induction n with
    | zero => intro q h; omega
    | succ n ih =>
      intro q hq hqs
      cases hl : L q with
      | true => rfl
      | false =>
        obtain ⟨e, he, hb, hon⟩ := hfin q _ (Array.getElem?_eq_getElem hqs) hl
        have h3 := hear q _ (Array.getElem?_eq_getElem hqs) e he hb
        rw [ih e.on (by omega) (by omega)] at hon
        cases hon
  have hall' : ∀ q, q < ops.size → L q = true := fun q hq => hall (q + 1) q (Nat.lt_succ_self _) hq
  have hlt : ∀ {q s}, slots[q]? = some (some s) → q < ops.size := fun {q s} h => by
    have := (List.getElem?_eq_some_iff.1 h).1
    omega
  have hact : act = ⟨layV V 0 slots a.tmps, a.defers⟩ := by
    have ht : act.tmps = layV V 0 slots a.tmps := by
      apply Array.ext_getElem?
      intro s
      by_cases hs : some s ∈ slots
      · obtain ⟨q, hq, e⟩ := List.getElem_of_mem hs
        have hqs : slots[q]? = some (some s) := by rw [List.getElem?_eq_getElem hq, e]
        rw [hJ.has q s (hall' q (hlt hqs)) hqs, layV_in hnd hqs (inO_at hin hqs), Nat.zero_add]
      rw [hJ.outN s hs, layV_out hs]
    show (⟨act.tmps, act.defers⟩ : Act) = _
    rw [hJ.df]
    exact congrArg (fun t => (⟨t, a.defers⟩ : Act)) ht
  rw [hact]
  exact fin L V W hall' (fun q hq => hJ.s q (hall' q hq)) hJ.f
end

/-- An element put into a row: the empty row (0), what stands before it (1), its literal list (2), both (3), all (4). -/
structure InsF (e : TypeId) (w0 : World) (pre post : List Value) (x : Value) (b0 b1 b2 b3 b4 : Bool) (v0 v1 v2 v3 v4 : Value) (W : World) : Prop where
  bel : Below w0.heap.size w0 W
  r0 : b0 = true → b1 = false → W.ownsRow w0.heap.size e 1 v0 0 []
  r1 : b1 = true → b3 = false → W.ownsRow w0.heap.size e 1 v1 pre.length pre
  l2 : b2 = true → b3 = false → ∃ g, v2 = .slice (some ⟨g, 0, none⟩) 1 1 ∧ W.heap[g]? = some (.cells #[x] e) ∧ w0.heap.size ≤ g ∧ (b0 = true → b1 = false → v0.ownBlock ≠ some g) ∧ (b1 = true → v1.ownBlock ≠ some g)
  r3 : b3 = true → b4 = false → W.ownsRow w0.heap.size e 1 v3 (pre.length + 1) (pre ++ [x])
  r4 : b4 = true → W.ownsRow w0.heap.size e 1 v4 (pre.length + 1 + post.length) (pre ++ [x] ++ post)

section
variable {e : TypeId} {w0 W W' : World} {pre post : List Value} {x : Value} {b0 b1 b2 b3 b4 : Bool} {v0 v1 v2 v3 v4 v : Value}
theorem InsF.start : InsF e w0 pre post x false false false false false v0 v1 v2 v3 v4 w0.drew :=
  { bel := (Below.refl _ _).drew, r0 := fun h => (nomatch h), r1 := fun h => (nomatch h), l2 := fun h => (nomatch h), r3 := fun h => (nomatch h), r4 := fun h => (nomatch h) }
theorem InsF.size (h : InsF e w0 pre post x b0 b1 b2 b3 b4 v0 v1 v2 v3 v4 W) : w0.heap.size ≤ W.heap.size := h.bel.size
/-- The empty row is laid. -/
theorem InsF.one (h : InsF e w0 pre post x false b1 b2 b3 b4 v0 v1 v2 v3 v4 W) (h1 : b1 = false) (h3 : b3 = false) (h4 : b4 = false) : InsF e w0 pre post x true b1 b2 b3 b4 (.slice (some ⟨W.heap.size, 0, none⟩) 0 0) v1 v2 v3 v4 (W.alloc (.cells #[] e)) := by
  have hb := (Below.refl W.heap.size W).alloc (Nat.le_refl _) (.cells #[] e)
  refine { bel := h.bel.trans (hb.mono h.size), r0 := fun _ _ => owns_mono (World.ownsRow_made W #[] 0 (Nat.le_refl _) (Nat.zero_le _) rfl) h.size, r1 := fun e1 => (by rw [h1] at e1; cases e1), l2 := fun e2 _ => ?_, r3 := fun e3 => (by rw [h3] at e3; cases e3), r4 := fun e4 => (by rw [h4] at e4; cases e4) }
  obtain ⟨g, a1, a2, a3, _, a5⟩ := h.l2 e2 h3
  have hg := (Array.getElem?_eq_some_iff.1 a2).1
  exact ⟨g, a1, (hb.block g hg).trans a2, a3, fun _ _ hq => by simp [Value.ownBlock] at hq; omega, a5⟩
/-- What stands before it is copied. -/
theorem InsF.two (h : InsF e w0 pre post x true false b2 b3 b4 v0 v1 v2 v3 v4 W) (h3 : b3 = false) (h4 : b4 = false) (ho : W'.ownsRow w0.heap.size e 1 v pre.length pre) (hk : Kept (fun q => v0.ownBlock = some q) W W') (hm : Moved W v0 v) : InsF e w0 pre post x true true b2 b3 b4 v0 v v2 v3 v4 W' := by
  have r0 := h.r0 rfl rfl
  refine { bel := h.bel.trans (hk.below (fun q hq => (r0.lt q hq).1) h.size), r0 := fun _ e1 => (nomatch e1), r1 := fun _ _ => ho, l2 := fun e2 _ => ?_, r3 := fun e3 => (by rw [h3] at e3; cases e3), r4 := fun e4 => (by rw [h4] at e4; cases e4) }
  obtain ⟨g, a1, a2, a3, a4, _⟩ := h.l2 e2 h3
  have hg := (Array.getElem?_eq_some_iff.1 a2).1
  refine ⟨g, a1, (hk.block g hg (a4 rfl rfl)).trans a2, a3, fun _ e1 => (nomatch e1), fun _ hq => ?_⟩
  rcases hm g hq with h' | h'
  · exact a4 rfl rfl h'
  omega
/-- Its literal list is laid. -/
theorem InsF.lit (h : InsF e w0 pre post x b0 b1 false b3 b4 v0 v1 v2 v3 v4 W) (h3 : b3 = false) (h4 : b4 = false) : InsF e w0 pre post x b0 b1 true b3 b4 v0 v1 (.slice (some ⟨W.heap.size, 0, none⟩) 1 1) v3 v4 (W.alloc (.cells #[x] e)) := by
  have hb := (Below.refl W.heap.size W).alloc (Nat.le_refl _) (.cells #[x] e)
  exact { bel := h.bel.trans (hb.mono h.size), r0 := fun e0 e1 => owns_below (h.r0 e0 e1) hb (Nat.le_refl _), r1 := fun e1 e3 => owns_below (h.r1 e1 e3) hb (Nat.le_refl _)
          l2 := fun _ _ => ⟨W.heap.size, rfl, heap_alloc_new _ _, h.size, fun e0 e1 hq => by have := ((h.r0 e0 e1).lt _ hq).2; omega, fun e1 hq => by have := ((h.r1 e1 h3).lt _ hq).2; omega⟩
          r3 := fun e3 => (by rw [h3] at e3; cases e3)
          r4 := fun e4 => (by rw [h4] at e4; cases e4) }
/-- It is appended. -/
theorem InsF.three (h : InsF e w0 pre post x b0 true true false b4 v0 v1 v2 v3 v4 W) (h4 : b4 = false) (ho : W'.ownsRow w0.heap.size e 1 v (pre.length + 1) (pre ++ [x])) (hk : Kept (fun q => v1.ownBlock = some q) W W') : InsF e w0 pre post x b0 true true true b4 v0 v1 v2 v v4 W' :=
  { bel := h.bel.trans (hk.below (fun q hq => ((h.r1 rfl rfl).lt q hq).1) h.size), r0 := fun _ e1 => (nomatch e1), r1 := fun _ e3 => (nomatch e3), l2 := fun _ e3 => (nomatch e3), r3 := fun _ _ => ho, r4 := fun e4 => (by rw [h4] at e4; cases e4) }
/-- .. and what stands behind it. -/
theorem InsF.four (h : InsF e w0 pre post x b0 b1 b2 true false v0 v1 v2 v3 v4 W) (h1 : b1 = true) (ho : W'.ownsRow w0.heap.size e 1 v (pre.length + 1 + post.length) (pre ++ [x] ++ post)) (hk : Kept (fun q => v3.ownBlock = some q) W W') : InsF e w0 pre post x b0 b1 b2 true true v0 v1 v2 v3 v W' :=
  { bel := h.bel.trans (hk.below (fun q hq => ((h.r3 rfl rfl).lt q hq).1) h.size), r0 := fun _ e1 => (by rw [h1] at e1; cases e1), r1 := fun _ e3 => (nomatch e3), l2 := fun _ e3 => (nomatch e3), r3 := fun _ e4 => (nomatch e4), r4 := fun _ => ho }
end

theorem cells_at_add {w : World} {ad : Addr} {cs : List Value} (h : Cells w (some ad) cs) : ∀ j u, cs[j]? = some u → w.cell? (ad.add j) = some u := by
  intro j u hj
  obtain ⟨b, o, e, hc⟩ := h.at_ (List.getElem?_eq_some_iff.1 hj).1
  injection e with e
  subst e
  rw [Addr.add_lit]
  exact hc j u hj
theorem cells_nil_of {w : World} {cs : List Value} (h : Cells w none cs) : cs = [] := by
  cases cs with
  | nil => rfl
  | cons x r =>
    obtain ⟨b, o, e, _⟩ := h.at_ (k := 0) (by simp)
    cases e
theorem run_append_nil {P : Program} {w : World} (base : Nat) (t ty e : TypeId) (i : TypeInfo) (size : Nat) (ht : P.underlying t = some (.slice e)) (hi : P.info? e = some i) (v : Value) (n c : Nat) (xs : List Value) (hown : w.ownsRow base e size v n xs) :
    (Builtin.append_ #[t, t] ty #[v, .slice none 0 c]).run P w = .ok v w := by
  rcases hown.2 with ⟨rfl, rfl⟩ | ⟨g, cap, cur, rfl, _, _, hnc, _, _, _⟩
  · simp [Builtin.append_, run_underlying ht, sizeOf, typeInfo, hi, Builtin.lenOf, Builtin.firstCells]
  simp [Builtin.append_, run_underlying ht, sizeOf, typeInfo, hi, Builtin.lenOf, Builtin.firstCells, hnc, storeCells]

theorem run_appC {P : Program} {w : World} {t ty e : TypeId} {size bytes : Nat} (el : El P t e size bytes) (base : Nat) (v : Value) (n : Nat) (xs : List Value) (hown : w.ownsRow base e size v n xs)
    (A : Option Addr) (m c : Nat) (ys : List Value) (hl : ys.length = m * size) (hA : Cells w A ys) (h1 : ∀ u ∈ ys, u.oneCell' = true) (hn : (n + m) * bytes ≤ 140737488355328 ∧ n + m ≤ 4611686018427387904) (hbase : base ≤ w.heap.size) :
    ∃ v' w', (Builtin.append_ #[t, t] ty #[v, .slice A m c]).run P w = .ok v' w' ∧ w'.ownsRow base e size v' (n + m) (xs ++ ys) ∧ Kept (fun q => v.ownBlock = some q) w w' ∧ Moved w v v' := by
  obtain ⟨ht, i, z, hi, hz, hs, hb, hzs, h0⟩ := el
  cases A with
  | none =>
    have hy := cells_nil_of hA
    subst hy
    have hm : m = 0 := by
      rcases Nat.eq_zero_or_pos m with h | h
      · exact h
      have h2 : 0 < m * size := Nat.mul_pos h h0
      simp only [List.length_nil] at hl
      omega
    subst hm
    exact ⟨v, w, run_append_nil base t ty e i size ht hi v n c xs hown, by rw [List.append_nil]; exact hown, Kept.refl _ _, fun q hq => .inl hq⟩
  | some ad =>
    obtain ⟨v', w', hr, r1, r2, _, r4⟩ := run_append_own_at (P := P) w base t ty e i z size bytes ht hi hz hs hb hzs h0 v n xs hown ad m c ys hl (cells_at_add hA) h1 (by unfold maxLen; omega) hn.1 hbase
    refine ⟨v', w', hr, r1, kept_of_grown r2, fun q hq => ?_⟩
    rcases r4 with h | h
    · exact .inl (by rw [← h]; exact hq)
    rw [h] at hq; injection hq with hq; exact .inr (by omega)

section
variable {P : Program} {W : World} {ops : Array Oper} {rest : List Oper} {o : Oper} {a : Act} {Q : Exit → Act → World → Prop}
theorem wpList_appC {t e : TypeId} {size bytes : Nat} (el : El P t e size bytes) (hgd : o.guard = none) (s x : Operand)
    (ho : o.op = .call { callee := .builtin .append, args := #[s, x], argTypes := #[t, t] })
    (base : Nat) (v : Value) (n : Nat) (xs : List Value) (hs : a.eval s = v) (hown : W.ownsRow base e size v n xs)
    (A : Option Addr) (m c : Nat) (ys : List Value) (hx : a.eval x = .slice A m c) (hl : ys.length = m * size) (hA : Cells W A ys) (h1 : ∀ u ∈ ys, u.oneCell' = true)
    (hn : (n + m) * bytes ≤ 140737488355328 ∧ n + m ≤ 4611686018427387904) (hbase : base ≤ W.heap.size)
    (h : ∀ v' w', w'.ownsRow base e size v' (n + m) (xs ++ ys) → Kept (fun q => v.ownBlock = some q) W w' → Moved W v v' → wpList P ops Q rest (a.put o.dst v') w') :
    wpList P ops Q (o :: rest) a W := by
  obtain ⟨v', w', hr, r1, r2, r3⟩ := run_appC (P := P) (ty := o.type) el base v n xs hown A m c ys hl hA h1 hn hbase
  refine wpList_plain hgd fun K hK' => ?_
  unfold Oper.wp
  simp [execOp, ho, resolve, invoke, builtin, hs, hx, hr, Result.andThen]
  exact hK' _ _ (h v' w' r1 r2 r3)

/-- .. as one operation of a region. -/
theorem step_appC {Y} {K : Act → World → Prop} {G : Prop} {t e : TypeId} {size bytes : Nat} (el : El P t e size bytes) (hgd : o.guard = none) (s x : Operand)
    (ho : o.op = .call { callee := .builtin .append, args := #[s, x], argTypes := #[t, t] })
    (base : Nat) (v : Value) (n : Nat) (xs : List Value) (hs : a.eval s = v) (hown : W.ownsRow base e size v n xs)
    (A : Option Addr) (m c : Nat) (ys : List Value) (hx : a.eval x = .slice A m c) (hl : ys.length = m * size) (hA : Cells W A ys) (h1 : ∀ u ∈ ys, u.oneCell' = true)
    (hn : (n + m) * bytes ≤ 140737488355328 ∧ n + m ≤ 4611686018427387904) (hbase : base ≤ W.heap.size)
    (h : ∀ v' w', w'.ownsRow base e size v' (n + m) (xs ++ ys) → Kept (fun q => v.ownBlock = some q) W w' → Moved W v v' → K (a.put o.dst v') w') : if Region.wanted o Y = true then Oper.wp P o a W K Q else G := by
  obtain ⟨v', w', hr, r1, r2, r3⟩ := run_appC (P := P) (ty := o.type) el base v n xs hown A m c ys hl hA h1 hn hbase
  rw [if_pos (by simp [Region.wanted, hgd])]
  unfold Oper.wp
  simp [execOp, ho, resolve, invoke, builtin, hs, hx, hr]
  exact h v' w' r1 r2 r3
end

end Go.Proofs.YtijkdpdmclkmlaaGreatDoor
