/- append of one element that has just been laid, said shortly: where the row lies afterwards, and what has turned. No program is in sight. A region that draws its order and ends in an append and a store, or in a store: what holds while it is under way, told for any of them. No program is in sight. -/
import Derived.Test.YtijkdpdmclkmlaaGreatDoorJ0
import Derived.ArgAppend
import Derived.OwnWalk
import Derived.Test.YtijkdpdmclkmlaaGreatDoorJ1
set_option linter.unusedSimpArgs false
set_option linter.unusedVariables false
set_option maxRecDepth 100000
set_option maxHeartbeats 16000000
namespace Go.Proofs.YtijkdpdmclkmlaaGreatDoor
open Go.RowKit
/-- What the laws of append ask of an element's type. -/
def El (P : Program) (t e : TypeId) (size bytes : Nat) : Prop :=
  P.underlying t = some (.slice e) ∧ ∃ i z, P.info? e = some i ∧ i.zero = some z ∧ i.size = size ∧ i.bytes = bytes ∧ z.cells.size = size ∧ 0 < size

theorem El.mk' {P : Program} {t e : TypeId} {z : Value} {size bytes : Nat} (ht : P.underlying t = some (.slice e)) (hi : (P.info? e).map (fun i => (i.zero, i.size, i.bytes)) = some (some z, size, bytes)) (hz : z.cells.size = size) (h0 : 0 < size) : El P t e size bytes := by
  obtain ⟨i, h1, h2, h3, h4⟩ := info_parts hi
  exact ⟨ht, i, z, h1, h2, h3, h4, hz, h0⟩

/-- The row lies where it lay, or in new memory. -/
def Moved (w : World) (v v' : Value) : Prop := ∀ q, v'.ownBlock = some q → v.ownBlock = some q ∨ w.heap.size ≤ q

theorem grown_none {w w' : World} {row : Option Nat} (h : w.grownBy w' none) : w.grownBy w' row :=
  ⟨h.os, h.tape, h.output, h.size, fun k hk _ => h.block k hk (by simp)⟩

theorem run_app {P : Program} {w : World} {t ty e : TypeId} {size bytes : Nat} (el : El P t e size bytes) (base : Nat) (v : Value) (n : Nat) (xs : List Value) (hown : w.ownsRow base e size v n xs)
    (ad : Addr) (m c : Nat) (news : List Value) (hm : 1 ≤ m) (hl : news.length = m * size) (hnews : ∀ j u, news[j]? = some u → w.cell? (ad.add j) = some u) (h1 : ∀ u ∈ news, u.oneCell' = true)
    (h63 : n + m ≤ maxLen) (hbytes : (n + m) * bytes ≤ 140737488355328) (hbase : base ≤ w.heap.size) :
    ∃ v' w', (Builtin.append_ #[t, t] ty #[v, .slice (some ad) m c]).run P w = .ok v' w' ∧ w'.ownsRow base e size v' (n + m) (xs ++ news) ∧ w.grownBy w' v.ownBlock ∧ Moved w v v' := by
  obtain ⟨ht, i, z, hi, hz, hs, hb, hzs, h0⟩ := el
  rcases hown.2 with ⟨rfl, rfl⟩ | ⟨g, cap, cur, rfl, hbg, hg, hn, hcap, hsz, htake⟩
  · obtain ⟨v', w', hr, r1, r2, _⟩ := run_append_own (P := P) w w.heap.size t ty e i z size bytes ht hi hz hs hb hzs h0 (.slice none 0 0) 0 xs ⟨hown.1, .inl ⟨rfl, rfl⟩⟩ ad m c news hl hnews h1 h63 hbytes (Nat.le_refl _)
    refine ⟨v', w', hr, ⟨r1.1, ?_⟩, r2, fun q hq => .inr (r1.lt q hq).1⟩
    rcases r1.2 with h | ⟨g, cap, cur, e1, e2, rest⟩
    · exact .inl h
    exact .inr ⟨g, cap, cur, e1, Nat.le_trans hbase e2, rest⟩
  by_cases hr : n + m ≤ cap
  · obtain ⟨w', hrun, r1, r2⟩ := run_append_fits (P := P) w base t ty e i size ht hi hs g n cap xs hown ad m c news hl hnews h1 hr
    exact ⟨_, w', hrun, r1, r2, fun q hq => .inl hq⟩
  obtain ⟨v', w', hrun, r1, r2⟩ := run_append_arg_grows (P := P) w t ty e i z size bytes ht hi hz hs hb hzs h0 ⟨g, 0, none⟩ n cap xs hown.1 (fun j u hj => hown.cells (g := g) rfl j u hj) ad m c news hl hnews (by omega) h63 hbytes
  refine ⟨v', w', hrun, ⟨r1.1, ?_⟩, grown_none r2, fun q hq => .inr (r1.lt q hq).1⟩
  rcases r1.2 with h | ⟨g, cap, cur, e1, e2, rest⟩
  · exact .inl h
  exact .inr ⟨g, cap, cur, e1, Nat.le_trans hbase e2, rest⟩

theorem kept_of_grown {w w' : World} {row : Option Nat} (h : w.grownBy w' row) : Kept (fun q => row = some q) w w' :=
  ⟨h.os, h.tape, h.output, h.size, fun k hk hn => h.block k hk (fun e => hn e.symm)⟩

theorem below_kept {B : Nat} {a w w' : World} {S : Nat → Prop} (hb : Below B a w) (hk : Kept S w w') (hs : ∀ q, S q → B ≤ q) (hB : B ≤ w.heap.size) : Below B a w' :=
  hb.trans (hk.below hs hB)

section
variable {P : Program} {W : World} {ops : Array Oper} {rest : List Oper} {o : Oper} {a : Act} {Q : Exit → Act → World → Prop}

theorem app_facts {t ty e T : TypeId} {size bytes : Nat} (el : El P t e size bytes) (base : Nat) (v : Value) (n : Nat) (xs : List Value) (hown : W.ownsRow base e size v n xs)
    (news : List Value) (hl : news.length = size) (h1 : ∀ u ∈ news, u.oneCell' = true) (hn : (n + 1) * bytes ≤ 140737488355328 ∧ n ≤ 4611686018427387904) (hbase : base ≤ W.heap.size) :
    ∃ v' w', (Builtin.append_ #[t, t] ty #[v, .slice (some ⟨W.heap.size, 0, none⟩) 1 1]).run P (W.alloc (.cells news.toArray T)) = .ok v' w' ∧ w'.ownsRow base e size v' (n + 1) (xs ++ news) ∧ Kept (fun q => v.ownBlock = some q) W w' ∧ Moved W v v' := by
  obtain ⟨v', w', h, r1, r2, r3⟩ := run_app (P := P) (ty := ty) el base v n xs (hown.alloc (.cells news.toArray T)) ⟨W.heap.size, 0, none⟩ 1 1 news (Nat.le_refl _) (by omega) (fun j u hj => by
      rw [Addr.add_lit, Nat.zero_add, cell_of_row _ _ _ _ _ _ (heap_alloc_new W (.cells news.toArray T))]
      simpa using hj) h1 (by unfold maxLen; omega) (by omega) (by simp; omega)
  refine ⟨v', w', h, r1, (Kept.of_below ((Below.refl _ W).alloc (Nat.le_refl _) _) _).trans (kept_of_grown r2), fun q hq => ?_⟩
  rcases r3 q hq with h | h
  · exact .inl h
  exact .inr (by simp at h; omega)

/-- append of one element, laid just before. -/
theorem wpList_app {t e T : TypeId} {size bytes : Nat} (el : El P t e size bytes) (hgd : o.guard = none) (s x : Operand)
    (ho : o.op = .call { callee := .builtin .append, args := #[s, x], argTypes := #[t, t] })
    (base : Nat) (v : Value) (n : Nat) (xs : List Value) (hs : a.eval s = v) (hown : W.ownsRow base e size v n xs)
    (news : List Value) {nb : Nat} (hx : a.eval x = .slice (some ⟨nb, 0, none⟩) 1 1) (hnb : W.heap.size = nb) (hl : news.length = size) (h1 : ∀ u ∈ news, u.oneCell' = true) (hn : (n + 1) * bytes ≤ 140737488355328 ∧ n ≤ 4611686018427387904) (hbase : base ≤ W.heap.size)
    (h : ∀ v' w', w'.ownsRow base e size v' (n + 1) (xs ++ news) → Kept (fun q => v.ownBlock = some q) W w' → Moved W v v' → wpList P ops Q rest (a.put o.dst v') w') :
    wpList P ops Q (o :: rest) a (W.alloc (.cells news.toArray T)) := by
  subst hnb
  obtain ⟨v', w', hr, r1, r2, r3⟩ := app_facts (ty := o.type) (T := T) el base v n xs hown news hl h1 hn hbase
  refine wpList_plain hgd fun K hK' => ?_
  unfold Oper.wp
  simp [execOp, ho, resolve, invoke, builtin, hs, hx, hr, Result.andThen]
  exact hK' _ _ (h v' w' r1 r2 r3)

/-- append of a slice that is read. -/
theorem wpList_apps {t e : TypeId} {size bytes : Nat} (el : El P t e size bytes) (hgd : o.guard = none) (s x : Operand)
    (ho : o.op = .call { callee := .builtin .append, args := #[s, x], argTypes := #[t, t] })
    (base : Nat) (v : Value) (n : Nat) (xs : List Value) (hs : a.eval s = v) (hown : W.ownsRow base e size v n xs)
    (ad : Addr) (m c : Nat) (news : List Value) (hx : a.eval x = .slice (some ad) m c) (hm : 1 ≤ m) (hl : news.length = m * size) (hnews : ∀ j u, news[j]? = some u → W.cell? (ad.add j) = some u) (h1 : ∀ u ∈ news, u.oneCell' = true)
    (hn : (n + m) * bytes ≤ 140737488355328 ∧ n + m ≤ 4611686018427387904) (hbase : base ≤ W.heap.size)
    (h : ∀ v' w', w'.ownsRow base e size v' (n + m) (xs ++ news) → Kept (fun q => v.ownBlock = some q) W w' → Moved W v v' → wpList P ops Q rest (a.put o.dst v') w') :
    wpList P ops Q (o :: rest) a W := by
  obtain ⟨v', w', hr, r1, r2, r3⟩ := run_app (P := P) (ty := o.type) el base v n xs hown ad m c news hm hl hnews h1 (by unfold maxLen; omega) (by omega) hbase
  refine wpList_plain hgd fun K hK' => ?_
  unfold Oper.wp
  simp [execOp, ho, resolve, invoke, builtin, hs, hx, hr, Result.andThen]
  exact hK' _ _ (h v' w' r1 (kept_of_grown r2) r3)
end

theorem one1 {u : Value} (h : u.oneCell' = true) : ∀ x ∈ [u], x.oneCell' = true := by
  intro x hx
  simp at hx
  subst hx
  exact h

/-- What has come up stands behind what it waits for. -/
def DC (ops : Array Oper) (L : Nat → Bool) : Prop := ∀ (i : Nat) (o : Oper), ops[i]? = some o → L i = true → ∀ e ∈ o.after, Region.binds .any e = true → L e.on = true
theorem dc_next {ops : Array Oper} {L : Nat → Bool} {i : Nat} {o : Oper} (h : DC ops L) (ho : ops[i]? = some o) (hd : ∀ e ∈ o.after, Region.binds .any e = true → L e.on = true) : DC ops (upd L i) := fun j o' hj hl e he hb => by
  have key : L e.on = true := by
    by_cases hji : j = i
    · subst hji
      rw [ho] at hj
      injection hj with hj
      subst hj
      exact hd e he hb
    rw [upd_other hji] at hl
    exact h j o' hj hl e he hb
  unfold upd
  split
  · rfl
  exact key

theorem wp_region_dc {P : Program} {ops : Array Oper} {Q : Exit → Act → World → Prop} {id : Nat} {a : Act} {w : World} (hm : P.follows .mixedOrders = true) (J : (Nat → Bool) → Act → World → Prop) (h0 : J (fun _ => false) a w.drew)
    (step : ∀ (L : Nat → Bool) (a : Act) (w : World) (i : Nat) (o : Oper), J L a w → DC ops L → L i = false → ops[i]? = some o → (∀ e ∈ o.after, Region.binds .any e = true → L e.on = true) →
      ∀ K' : Act → World → Prop, (∀ a' w', J (upd L i) a' w' → K' a' w') → if Region.wanted o (yielded ops a.tmps) = true then Oper.wp P o a w K' Q else K' (a.put o.dst undef) w)
    (fin : ∀ (L : Nat → Bool) (a : Act) (w : World), J L a w → (∀ i o, ops[i]? = some o → L i = false → ∃ e ∈ o.after, Region.binds .any e = true ∧ L e.on = false) → Q .normal a w) :
    (Code.region id ops true).wp P Q a w := by
  refine wp_region_inv hm (fun L a w => J L a w ∧ DC ops L) ⟨h0, fun i o _ h => (nomatch h)⟩ (fun L a w i o hJ hL ho hd K' hK => ?_) (fun L a w hJ hf => fin L a w hJ.1 hf)
  exact step L a w i o hJ.1 hJ.2 hL ho hd K' fun a' w' h => hK a' w' ⟨h, dc_next hJ.2 ho hd⟩

/-- How many of the first n operations have come up. -/
def cntL : Nat → (Nat → Bool) → Nat
  | 0, _ => 0
  | n + 1, L => cntL n L + if L n then 1 else 0
theorem cnt_same {L : Nat → Bool} {i : Nat} : ∀ {n : Nat}, n ≤ i → cntL n (upd L i) = cntL n L
  | 0, _ => rfl
  | n + 1, h => by
    rw [cntL, cntL, cnt_same (by omega), upd_other (by omega)]
theorem cnt_upd {L : Nat → Bool} {i : Nat} (hL : L i = false) : ∀ {n : Nat}, i < n → cntL n (upd L i) = cntL n L + 1
  | 0, h => by omega
  | n + 1, h => by
    rcases Nat.lt_or_eq_of_le (Nat.le_of_lt_succ h) with h' | h'
    · rw [cntL, cntL, cnt_upd hL h', upd_other (by omega)]; omega
    subst h'
    rw [cntL, cntL, cnt_same (Nat.le_refl _), upd_same, hL]
    simp
theorem cnt_mono {L : Nat → Bool} {i : Nat} (hL : L i = false) (n : Nat) : cntL n L ≤ cntL n (upd L i) := by
  by_cases h : i < n
  · rw [cnt_upd hL h]; omega
  rw [cnt_same (by omega)]; exact Nat.le_refl _
theorem cnt_le (L : Nat → Bool) : ∀ n, cntL n L ≤ n
  | 0 => Nat.le_refl _
  | n + 1 => by
    have := cnt_le L n
    rw [cntL]
    split <;> omega
/-- Ahead of the append (operation qA): D, with how much has been drawn, and the literal lists' blocks; behind it E; behind the store (qS): F. -/
structure RF (p lo K n qA qS : Nat) (D : Nat → World → Prop) (E : Value → World → Prop) (F : World → Prop) (lits : List (Nat × Nat × Obj)) (L : Nat → Bool) (v : Value) (W : World) : Prop where
  d : L qA = false → ∃ K', K' ≤ K + 2 * cntL n L ∧ D K' W
  li : L qA = false → ∀ x ∈ lits, L x.1 = true → lo ≤ x.2.1 ∧ W.heap[x.2.1]? = some x.2.2
  e : L qA = true → L qS = false → E v W
  f : L qS = true → F W
  o : L qS = true → L qA = true

section
variable {p lo K n qA qS i : Nat} {D : Nat → World → Prop} {E E' : Value → World → Prop} {F F' : World → Prop} {lits lits' : List (Nat × Nat × Obj)} {L : Nat → Bool} {v v' : Value} {W W' : World}
theorem RF.start (h : D K W) : RF p lo K n qA qS D E F lits (fun _ => false) v W :=
  { d := fun _ => ⟨K, by omega, h⟩, li := fun _ _ _ h => (nomatch h), e := fun h => (nomatch h), f := fun h => (nomatch h), o := fun h => (nomatch h) }
theorem RF.q (h : RF p lo K n qA qS D E F lits L v W) (ha : L qA = false) : L qS = false := by
  cases e : L qS
  · rfl
  rw [h.o e] at ha; cases ha
theorem RF.pure (h : RF p lo K n qA qS D E F lits L v W) (hL : L i = false) (hA : qA ≠ i) (hS : qS ≠ i) (hl : ∀ x ∈ lits, x.1 ≠ i) : RF p lo K n qA qS D E F lits (upd L i) v W :=
  { d := fun e => by
      rw [upd_other hA] at e
      obtain ⟨K', h1, h2⟩ := h.d e
      exact ⟨K', by have := cnt_mono hL n; omega, h2⟩
    li := fun e x hx hy => by
      rw [upd_other hA] at e
      rw [upd_other (hl x hx)] at hy
      exact h.li e x hx hy
    e := fun e1 e2 => by rw [upd_other hA] at e1; rw [upd_other hS] at e2; exact h.e e1 e2
    f := fun e => by rw [upd_other hS] at e; exact h.f e
    o := fun e => by rw [upd_other hS] at e; rw [upd_other hA]; exact h.o e }
theorem RF.draw {K2 : Nat} (h : RF p lo K n qA qS D E F lits L v W) (hn : i < n) (hL : L i = false) (ha : L qA = false) (hA : qA ≠ i) (hS : qS ≠ i) (hl : ∀ x ∈ lits, x.1 ≠ i) (hK2 : K2 ≤ K + 2 * cntL n L + 2) (hpl : p < lo) (hD : D K2 W') (hk : Kept (fun q => q = p) W W') : RF p lo K n qA qS D E' F' lits (upd L i) v W' :=
  { d := fun _ => ⟨K2, by rw [cnt_upd hL hn]; omega, hD⟩
    li := fun _ x hx hy => by
      rw [upd_other (hl x hx)] at hy
      obtain ⟨h1, h2⟩ := h.li ha x hx hy
      exact ⟨h1, (hk.block _ (Array.getElem?_eq_some_iff.1 h2).1 (by omega)).trans h2⟩
    e := fun e => by rw [upd_other hA, ha] at e; cases e
    f := fun e => by rw [upd_other hS, h.q ha] at e; cases e
    o := fun e => by rw [upd_other hS, h.q ha] at e; cases e }
theorem RF.draw2 {K2 : Nat} (h : RF p lo K n qA qS D E F lits L v W) (hn : i < n) (hL : L i = false) (ha : L qA = false) (hA : qA ≠ i) (hS : qS ≠ i) (hl : ∀ x ∈ lits', (x ∈ lits ∨ L x.1 = false) ∧ x.1 ≠ i) (hK2 : K2 ≤ K + 2 * cntL n L + 2) (hpl : p < lo) (hD : D K2 W') (hk : Kept (fun q => q = p) W W') : RF p lo K n qA qS D E' F' lits' (upd L i) v W' :=
  { d := fun _ => ⟨K2, by rw [cnt_upd hL hn]; omega, hD⟩
    li := fun _ x hx hy => by
      obtain ⟨h1, h2⟩ := hl x hx
      rw [upd_other h2] at hy
      rcases h1 with h1 | h1
      · obtain ⟨h1, h2⟩ := h.li ha x h1 hy
        exact ⟨h1, (hk.block _ (Array.getElem?_eq_some_iff.1 h2).1 (by omega)).trans h2⟩
      rw [h1] at hy; cases hy
    e := fun e => by rw [upd_other hA, ha] at e; cases e
    f := fun e => by rw [upd_other hS, h.q ha] at e; cases e
    o := fun e => by rw [upd_other hS, h.q ha] at e; cases e }
theorem RF.lit {obj : Obj} (h : RF p lo K n qA qS D E F lits L v W) (hL : L i = false) (ha : L qA = false) (hA : qA ≠ i) (hS : qS ≠ i) (hl : ∀ x ∈ lits', x = (i, W.heap.size, obj) ∨ (x ∈ lits ∧ x.1 ≠ i)) (hp : ∀ K', D K' W → lo ≤ W.heap.size) (hD : ∀ K', D K' W → D K' (W.alloc obj)) : RF p lo K n qA qS D E' F' lits' (upd L i) v (W.alloc obj) :=
  { d := fun _ => by
      obtain ⟨K', h1, h2⟩ := h.d ha
      exact ⟨K', by have := cnt_mono hL n; omega, hD K' h2⟩
    li := fun _ x hx hy => by
      obtain ⟨K', _, h2⟩ := h.d ha
      have hpw := hp K' h2
      rcases hl x hx with rfl | ⟨hx', hne⟩
      · exact ⟨hpw, heap_alloc_new _ _⟩
      rw [upd_other hne] at hy
      obtain ⟨a1, a2⟩ := h.li ha x hx' hy
      exact ⟨a1, (heap_alloc_old _ _ (Array.getElem?_eq_some_iff.1 a2).1).trans a2⟩
    e := fun e => by rw [upd_other hA, ha] at e; cases e
    f := fun e => by rw [upd_other hS, h.q ha] at e; cases e
    o := fun e => by rw [upd_other hS, h.q ha] at e; cases e }
theorem RF.app (h : RF p lo K n qA qS D E F lits L v W) (ha : L qA = false) (hS : qS ≠ qA) (hE : E' v' W') : RF p lo K n qA qS D E' F' lits (upd L qA) v' W' :=
  { d := fun e => by rw [upd_same] at e; cases e
    li := fun e => by rw [upd_same] at e; cases e
    e := fun _ _ => hE
    f := fun e => by rw [upd_other hS, h.q ha] at e; cases e
    o := fun _ => upd_same _ _ }
theorem RF.store (h : RF p lo K n qA qS D E F lits L v W) (hA : L qA = true) (hS : qA ≠ qS) (hF : F W') : RF p lo K n qA qS D E F lits (upd L qS) v W' :=
  { d := fun e => by rw [upd_other hS, hA] at e; cases e
    li := fun e => by rw [upd_other hS, hA] at e; cases e
    e := fun _ e => by rw [upd_same] at e; cases e
    f := fun _ => hF
    o := fun _ => by rw [upd_other hS]; exact hA }
/-- A region without an append: the store alone. -/
theorem RF.store1 (hF : F W') : RF p lo K n qS qS D E F lits (upd L qS) v W' :=
  { d := fun e => by rw [upd_same] at e; cases e
    li := fun e => by rw [upd_same] at e; cases e
    e := fun _ e => by rw [upd_same] at e; cases e
    f := fun _ => hF
    o := fun _ => upd_same _ _ }
end

/-- append, as one operation of a region: what has grown. -/
theorem step_appR {P : Program} {Y} {o : Oper} {a : Act} {w : World} {K : Act → World → Prop} {Q : Exit → Act → World → Prop} {E : Prop} {t e : TypeId} {size bytes : Nat} (el : El P t e size bytes) (hgd : o.guard = none) (s x : Operand)
    (ho : o.op = .call { callee := .builtin .append, args := #[s, x], argTypes := #[t, t] })
    (base : Nat) (v : Value) (n : Nat) (xs : List Value) (hs : a.eval s = v) (hown : w.ownsRow base e size v n xs)
    (ad : Addr) (m c : Nat) (news : List Value) (hx : a.eval x = .slice (some ad) m c) (hl : news.length = m * size) (hnews : ∀ j u, news[j]? = some u → w.cell? (ad.add j) = some u) (h1 : ∀ u ∈ news, u.oneCell' = true)
    (h63 : n + m ≤ maxLen) (hbytes : (n + m) * bytes ≤ 140737488355328) (hbase : base ≤ w.heap.size)
    (h : ∀ v' w', w'.ownsRow base e size v' (n + m) (xs ++ news) → w.grownBy w' v.ownBlock → K (a.put o.dst v') w') : if Region.wanted o Y = true then Oper.wp P o a w K Q else E := by
  obtain ⟨ht, i, z, hi, hz, hsz, hb, hzs, h0⟩ := el
  rw [if_pos (by simp [Region.wanted, hgd])]
  exact wp_append_own w s x t ho base e i z size bytes ht hi hz hsz hb hzs h0 v n xs hs hown ad m c news hx hl hnews h1 h63 hbytes hbase (fun v' w' h2 h3 _ => h v' w' h2 h3)

end Go.Proofs.YtijkdpdmclkmlaaGreatDoor
