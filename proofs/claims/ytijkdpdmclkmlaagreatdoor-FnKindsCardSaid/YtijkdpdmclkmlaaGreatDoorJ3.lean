/- Links, parents, names of bigraphs: the two packages' tests walked. append of one element that has just been laid, said shortly: where the row lies afterwards, and what has turned. No program is in sight. -/
import Derived.Test.YtijkdpdmclkmlaaGreatDoorProg
import Derived.Test.YtijkdpdmclkmlaaGreatDoorJ2
import Derived.Test.YtijkdpdmclkmlaaGreatDoorJ0
import Derived.ArgAppend
import Derived.OwnWalk
set_option linter.unusedSimpArgs false
set_option linter.unusedVariables false
namespace Go.Proofs.YtijkdpdmclkmlaaGreatDoor
open Go.RowKit

theorem inB_neg {p r : Int} (hp : p < 0) : inB (-1 - p) 0 (r - 1) = decide (-r ≤ p) := by
  unfold inB
  rw [decide_eq_true (show (0 : Int) ≤ -1 - p by omega), Bool.true_and]
  by_cases h : -r ≤ p
  · rw [decide_eq_true h, decide_eq_true (by omega)]
  · rw [decide_eq_false h, decide_eq_false (by omega)]

set_option maxHeartbeats 1000000 in
theorem isLink_any (g : Gr) (nv sv ov iv : Value) (x : Int) (w : World) (hs : SmallG g) (hG : RGr w nv sv ov iv g) :
    Calls Tryz.prog 144 #[.agg #[.int .i64 g.roots, nv, sv, .int .i64 g.edges, ov, iv], .int .i64 x] w fun e w' => e = .returned (.bool (linkB g x)) ∧ Below w.heap.size w w' := by
  obtain ⟨AN, cN, AS, cS, AO, cO, AI, cI, rfl, rfl, rfl, rfl⟩ := hG.form
  have h1 := hs.edges
  have h2 := hs.outer
  have HB := Lib.hid (fun o => (Below.refl w.heap.size w).alloc (Nat.le_refl _) o)
  unfold linkB
  clear hG hs
  go_enter Tryz.func144, Tryz.ntmps144
  go_wp2_with ((with_reducible refine (within_any ..).mono ?_); rintro e w' ⟨rfl, rfl⟩)
  go_ret
  exact ⟨rfl, HB.out _⟩

set_option maxHeartbeats 1000000 in
theorem l2Link_any (g : Gr) (nv sv ov iv : Value) (x : Int) (w : World) (hs : SmallG g) (hG : RGr w nv sv ov iv g) :
    Calls Tryz.prog 207 #[.agg #[.int .i64 g.roots, nv, sv, .int .i64 g.edges, ov, iv], .int .i64 x] w fun e w' => e = .returned (.bool (linkB g x)) ∧ Below w.heap.size w w' := by
  obtain ⟨AN, cN, AS, cS, AO, cO, AI, cI, rfl, rfl, rfl, rfl⟩ := hG.form
  have h1 := hs.edges
  have h2 := hs.outer
  have HB := Lib.hid (fun o => (Below.refl w.heap.size w).alloc (Nat.le_refl _) o)
  unfold linkB
  clear hG hs
  go_enter Tryz.func207, Tryz.ntmps207
  go_wp2_with ((with_reducible refine (l1In_any ..).mono ?_); rintro e w' ⟨rfl, rfl⟩)
  go_ret
  exact ⟨rfl, HB.out _⟩

/-- The controls of the first nodes are there. -/
def CtlOk (sig : List Ct) (g : Gr) (below : Nat) : Prop := ∀ j, j < below → inB (nodA g j).1 0 ((sig.length : Int) - 1) = true

theorem nodA_get {g : Gr} {k : Nat} (h : k < g.nodes.length) : nodA g k = g.nodes[k] := by simp [nodA, List.getD, h]
theorem ctA_get {sig : List Ct} {k : Nat} (h : k < sig.length) : ctA sig k = sig[k] := by simp [ctA, List.getD, h]
theorem wiA_get {g : Gr} {k : Nat} (h : k < g.inner.length) : wiA g k = g.inner[k] := by simp [wiA, List.getD, h]

set_option maxHeartbeats 2000000 in
theorem isParent_any (sig : List Ct) (g : Gr) (nv sv ov iv gv : Value) (p : Int) (below : Nat) (w : World) (hs : SmallG g) (hS : RSl RCt 3 w gv sig) (hsl : sig.length ≤ 1000) (hG : RGr w nv sv ov iv g) (hb : below ≤ g.nodes.length) (hc : CtlOk sig g below) :
    Calls Tryz.prog 142 #[.agg #[.int .i64 g.roots, nv, sv, .int .i64 g.edges, ov, iv], gv, .int .i64 p, .int .i64 below] w fun e w' => e = .returned (.bool (underB sig g p below)) ∧ Below w.heap.size w w' := by
  have hal : ∀ o, Below w.heap.size w (w.alloc o) := fun o => (Below.refl w.heap.size w).alloc (Nat.le_refl _) o
  have HB := Lib.hid hal
  have h1 := hs.roots
  have h2 := hs.nodes
  unfold underB
  by_cases hp : p < 0
  · rw [if_pos hp]
    obtain ⟨AN, cN, AS, cS, AO, cO, AI, cI, rfl, rfl, rfl, rfl⟩ := hG.form
    obtain ⟨AG, cG, rfl, _⟩ := hS.form
    clear hS hG hs hal hc
    go_enter Tryz.func142, Tryz.ntmps142
    go_wp2_with fail
    go_ret
    exact ⟨rfl, HB.out _⟩
  · rw [if_neg hp]
    by_cases hlt : p < (below : Int)
    · obtain ⟨k, rfl⟩ := Int.eq_ofNat_of_zero_le (show 0 ≤ p by omega)
      have hkn : k < g.nodes.length := by omega
      have hck := hc k (by omega)
      rw [nodA_get hkn] at hck
      obtain ⟨b, o, c, A, d, eN, k0, _, _, _⟩ := nod_at (hG.n.below RNod_keep (hal (.cells #[.int .i64 g.roots, nv, sv, .int .i64 g.edges, ov, iv] 31))) hkn
      obtain ⟨q0, q1⟩ := inB_true hck
      obtain ⟨m, hm⟩ := Int.eq_ofNat_of_zero_le q0
      have hml : m < sig.length := by omega
      obtain ⟨b', o', c', eS, _, _, s2⟩ := ct_at (hS.below RCt_keep (hal (.cells #[.int .i64 g.roots, nv, sv, .int .i64 g.edges, ov, iv] 31))) hml
      have HE := Lib.hid (show kindA sig (nodA g ((k : Nat) : Int).toNat).1 = sig[m].2.2 from by
        unfold kindA
        rw [Int.toNat_natCast, nodA_get hkn, hm, Int.toNat_natCast, ctA_get hml])
      rw [hm] at k0
      rw [HE.out, decide_eq_true hlt, Bool.true_and]
      obtain ⟨AN, cN, AS, cS, AO, cO, AI, cI, _, rfl, rfl, rfl⟩ := hG.form
      subst eN
      subst eS
      clear hS hG hs hal hc hck q0 q1 hm HE
      generalize sig[m].2.2 = z at *
      cases hz : (z == 2)
      · have hz' : (z != 2) = true := by rw [bne, hz]; rfl
        go_enter Tryz.func142, Tryz.ntmps142
        go_wp2_with fail
        go_ret
        exact ⟨rfl, HB.out _⟩
      · have hz' : (z != 2) = false := by rw [bne, hz]; rfl
        go_enter Tryz.func142, Tryz.ntmps142
        go_wp2_with fail
        go_ret
        exact ⟨rfl, HB.out _⟩
    · rw [decide_eq_false hlt, Bool.false_and]
      obtain ⟨AN, cN, AS, cS, AO, cO, AI, cI, rfl, rfl, rfl, rfl⟩ := hG.form
      obtain ⟨AG, cG, rfl, _⟩ := hS.form
      clear hS hG hs hal hc
      go_enter Tryz.func142, Tryz.ntmps142
      go_wp2_with fail
      go_ret
      exact ⟨rfl, HB.out _⟩

set_option maxHeartbeats 2000000 in
theorem l2Under_any (sig : List Ct) (g : Gr) (nv sv ov iv gv : Value) (p : Int) (below : Nat) (w : World) (hs : SmallG g) (hS : RSl RCt 3 w gv sig) (hsl : sig.length ≤ 1000) (hG : RGr w nv sv ov iv g) (hp0 : -9223372036854775808 ≤ p) (hb : below ≤ g.nodes.length) (hc : CtlOk sig g below) :
    Calls Tryz.prog 206 #[gv, .agg #[.int .i64 g.roots, nv, sv, .int .i64 g.edges, ov, iv], .int .i64 p, .int .i64 below] w fun e w' => e = .returned (.bool (underB sig g p below)) ∧ Below w.heap.size w w' := by
  have hal : ∀ o, Below w.heap.size w (w.alloc o) := fun o => (Below.refl w.heap.size w).alloc (Nat.le_refl _) o
  have HB := Lib.hid hal
  have h1 := hs.roots
  have h2 := hs.nodes
  unfold underB
  by_cases hp : p < 0
  · rw [if_pos hp]
    obtain ⟨AN, cN, AS, cS, AO, cO, AI, cI, rfl, rfl, rfl, rfl⟩ := hG.form
    obtain ⟨AG, cG, rfl, _⟩ := hS.form
    clear hS hG hs hal hc
    go_enter Tryz.func206, Tryz.ntmps206
    go_wp2_with ((with_reducible refine (l1In_any ..).mono ?_); rintro e w' ⟨rfl, rfl⟩)
    go_ret
    exact ⟨by rw [← inB_neg hp]; rfl, HB.out _⟩
  · rw [if_neg hp]
    by_cases hlt : p < (below : Int)
    · obtain ⟨k, rfl⟩ := Int.eq_ofNat_of_zero_le (show 0 ≤ p by omega)
      have hkn : k < g.nodes.length := by omega
      have hck := hc k (by omega)
      rw [nodA_get hkn] at hck
      obtain ⟨b, o, c, A, d, eN, k0, _, _, _⟩ := nod_at (hG.n.below RNod_keep (hal (.cells #[.int .i64 g.roots, nv, sv, .int .i64 g.edges, ov, iv] 31))) hkn
      obtain ⟨q0, q1⟩ := inB_true hck
      obtain ⟨m, hm⟩ := Int.eq_ofNat_of_zero_le q0
      have hml : m < sig.length := by omega
      obtain ⟨b', o', c', eS, _, _, s2⟩ := ct_at (hS.below RCt_keep (hal (.cells #[.int .i64 g.roots, nv, sv, .int .i64 g.edges, ov, iv] 31))) hml
      have HE := Lib.hid (show kindA sig (nodA g ((k : Nat) : Int).toNat).1 = sig[m].2.2 from by
        unfold kindA
        rw [Int.toNat_natCast, nodA_get hkn, hm, Int.toNat_natCast, ctA_get hml])
      rw [hm] at k0
      rw [HE.out, decide_eq_true hlt, Bool.true_and]
      obtain ⟨AN, cN, AS, cS, AO, cO, AI, cI, _, rfl, rfl, rfl⟩ := hG.form
      subst eN
      subst eS
      clear hS hG hs hal hc hck q0 q1 hm HE
      generalize sig[m].2.2 = z at *
      cases hz : (z == 2)
      · have hz' : (z != 2) = true := by rw [bne, hz]; rfl
        go_enter Tryz.func206, Tryz.ntmps206
        go_wp2_with fail
        go_ret
        exact ⟨rfl, HB.out _⟩
      · have hz' : (z != 2) = false := by rw [bne, hz]; rfl
        go_enter Tryz.func206, Tryz.ntmps206
        go_wp2_with fail
        go_ret
        exact ⟨rfl, HB.out _⟩
    · rw [decide_eq_false hlt, Bool.false_and]
      obtain ⟨AN, cN, AS, cS, AO, cO, AI, cI, rfl, rfl, rfl, rfl⟩ := hG.form
      obtain ⟨AG, cG, rfl, _⟩ := hS.form
      clear hS hG hs hal hc
      go_enter Tryz.func206, Tryz.ntmps206
      go_wp2_with fail
      go_ret
      exact ⟨rfl, HB.out _⟩

end Go.Proofs.YtijkdpdmclkmlaaGreatDoor

set_option linter.unusedVariables false
namespace Go.Proofs.YtijkdpdmclkmlaaGreatDoor
open Go.RowKit

/-- What the laws of append ask of an element's type. -/
def El (P : Program) (t e : TypeId) (size bytes : Nat) : Prop :=
  P.underlying t = some (.slice e) ∧ ∃ i z, P.info? e = some i ∧ i.zero = some z ∧ i.size = size ∧ i.bytes = bytes ∧ z.cells.size = size ∧ 0 < size

theorem El.mk' {P : Program} {t e : TypeId} {z : Value} {size bytes : Nat} (ht : P.underlying t = some (.slice e)) (hi : (P.info? e).map (fun i => (i.zero, i.size, i.bytes)) = some (some z, size, bytes)) (hz : z.cells.size = size) (h0 : 0 < size) : El P t e size bytes := by
  obtain ⟨i, h1, h2, h3, h4⟩ := info_parts hi
  exact ⟨ht, i, z, h1, h2, h3, h4, hz, h0⟩

/-- The row lies where it lay, or in new memory. -/
def Moved (w : World) (v v' : Value) : Prop := ∀ q, v'.ownBlock = some q → v.ownBlock = some q ∨ w.heap.size ≤ q

theorem grown_none {w w' : World} {row : Option Nat} (h : w.grownBy w' none) : w.grownBy w' row :=
  ⟨h.os, h.tape, h.output, h.size, fun k hk _ => h.block k hk (by simp)⟩

theorem run_app {P : Program} {w : World} {t ty e : TypeId} {size bytes : Nat} (el : El P t e size bytes) (base : Nat) (v : Value) (n : Nat) (xs : List Value) (hown : w.ownsRow base e size v n xs)
    (ad : Addr) (m c : Nat) (news : List Value) (hm : 1 ≤ m) (hl : news.length = m * size) (hnews : ∀ j u, news[j]? = some u → w.cell? (ad.add j) = some u) (h1 : ∀ u ∈ news, u.oneCell' = true)
    (h63 : n + m ≤ maxLen) (hbytes : (n + m) * bytes ≤ 140737488355328) (hbase : base ≤ w.heap.size) :
    ∃ v' w', (Builtin.append_ #[t, t] ty #[v, .slice (some ad) m c]).run P w = .ok v' w' ∧ w'.ownsRow base e size v' (n + m) (xs ++ news) ∧ w.grownBy w' v.ownBlock ∧ Moved w v v' := by
  obtain ⟨ht, i, z, hi, hz, hs, hb, hzs, h0⟩ := el
  rcases hown.2 with ⟨rfl, rfl⟩ | ⟨g, cap, cur, rfl, hbg, hg, hn, hcap, hsz, htake⟩
  · obtain ⟨v', w', hr, r1, r2, _⟩ := run_append_own (P := P) w w.heap.size t ty e i z size bytes ht hi hz hs hb hzs h0 (.slice none 0 0) 0 xs ⟨hown.1, .inl ⟨rfl, rfl⟩⟩ ad m c news hl hnews h1 h63 hbytes (Nat.le_refl _)
    refine ⟨v', w', hr, ⟨r1.1, ?_⟩, r2, fun q hq => .inr (r1.lt q hq).1⟩
    rcases r1.2 with h | ⟨g, cap, cur, e1, e2, rest⟩
    · exact .inl h
    · exact .inr ⟨g, cap, cur, e1, Nat.le_trans hbase e2, rest⟩
  · by_cases hr : n + m ≤ cap
    · obtain ⟨w', hrun, r1, r2⟩ := run_append_fits (P := P) w base t ty e i size ht hi hs g n cap xs hown ad m c news hl hnews h1 hr
      exact ⟨_, w', hrun, r1, r2, fun q hq => .inl hq⟩
    · obtain ⟨v', w', hrun, r1, r2⟩ := run_append_arg_grows (P := P) w t ty e i z size bytes ht hi hz hs hb hzs h0 ⟨g, 0, none⟩ n cap xs hown.1 (fun j u hj => hown.cells (g := g) rfl j u hj) ad m c news hl hnews (by omega) h63 hbytes
      refine ⟨v', w', hrun, ⟨r1.1, ?_⟩, grown_none r2, fun q hq => .inr (r1.lt q hq).1⟩
      rcases r1.2 with h | ⟨g, cap, cur, e1, e2, rest⟩
      · exact .inl h
      · exact .inr ⟨g, cap, cur, e1, Nat.le_trans hbase e2, rest⟩

theorem kept_of_grown {w w' : World} {row : Option Nat} (h : w.grownBy w' row) : Kept (fun q => row = some q) w w' :=
  ⟨h.os, h.tape, h.output, h.size, fun k hk hn => h.block k hk (fun e => hn e.symm)⟩

theorem below_kept {B : Nat} {a w w' : World} {S : Nat → Prop} (hb : Below B a w) (hk : Kept S w w') (hs : ∀ q, S q → B ≤ q) (hB : B ≤ w.heap.size) : Below B a w' :=
  hb.trans (hk.below hs hB)

section
variable {P : Program} {W : World} {ops : Array Oper} {rest : List Oper} {o : Oper} {a : Act} {Q : Exit → Act → World → Prop}

theorem app_facts {t ty e T : TypeId} {size bytes : Nat} (el : El P t e size bytes) (base : Nat) (v : Value) (n : Nat) (xs : List Value) (hown : W.ownsRow base e size v n xs)
    (news : List Value) (hl : news.length = size) (h1 : ∀ u ∈ news, u.oneCell' = true) (hn : (n + 1) * bytes ≤ 140737488355328 ∧ n ≤ 4611686018427387904) (hbase : base ≤ W.heap.size) :
    ∃ v' w', (Builtin.append_ #[t, t] ty #[v, .slice (some ⟨W.heap.size, 0, none⟩) 1 1]).run P (W.alloc (.cells news.toArray T)) = .ok v' w' ∧ w'.ownsRow base e size v' (n + 1) (xs ++ news) ∧ Kept (fun q => v.ownBlock = some q) W w' ∧ Moved W v v' := by
  obtain ⟨v', w', h, r1, r2, r3⟩ := run_app (P := P) (ty := ty) el base v n xs (hown.alloc (.cells news.toArray T)) ⟨W.heap.size, 0, none⟩ 1 1 news (Nat.le_refl _) (by omega) (fun j u hj => by
      rw [Addr.add_lit, Nat.zero_add, cell_of_row _ _ _ _ _ _ (heap_alloc_new W (.cells news.toArray T))]
      simpa using hj) h1 (by unfold maxLen; omega) (by omega) (by simp; omega)
  refine ⟨v', w', h, r1, (Kept.of_below ((Below.refl _ W).alloc (Nat.le_refl _) _) _).trans (kept_of_grown r2), fun q hq => ?_⟩
  rcases r3 q hq with h | h
  · exact .inl h
  · exact .inr (by simp at h; omega)

/-- append of one element, laid just before. -/
theorem wpList_app {t e T : TypeId} {size bytes : Nat} (el : El P t e size bytes) (hgd : o.guard = none) (s x : Operand)
    (ho : o.op = .call { callee := .builtin .append, args := #[s, x], argTypes := #[t, t] })
    (base : Nat) (v : Value) (n : Nat) (xs : List Value) (hs : a.eval s = v) (hown : W.ownsRow base e size v n xs)
    (news : List Value) {nb : Nat} (hx : a.eval x = .slice (some ⟨nb, 0, none⟩) 1 1) (hnb : W.heap.size = nb) (hl : news.length = size) (h1 : ∀ u ∈ news, u.oneCell' = true) (hn : (n + 1) * bytes ≤ 140737488355328 ∧ n ≤ 4611686018427387904) (hbase : base ≤ W.heap.size)
    (h : ∀ v' w', w'.ownsRow base e size v' (n + 1) (xs ++ news) → Kept (fun q => v.ownBlock = some q) W w' → Moved W v v' → wpList P ops Q rest (a.put o.dst v') w') :
    wpList P ops Q (o :: rest) a (W.alloc (.cells news.toArray T)) := by
  subst hnb
  obtain ⟨v', w', hr, r1, r2, r3⟩ := app_facts (ty := o.type) (T := T) el base v n xs hown news hl h1 hn hbase
  refine wpList_plain hgd fun K hK' => ?_
  unfold Oper.wp
  simp [execOp, ho, resolve, invoke, builtin, hs, hx, hr, Result.andThen]
  exact hK' _ _ (h v' w' r1 r2 r3)

/-- append of a slice that is read. -/
theorem wpList_apps {t e : TypeId} {size bytes : Nat} (el : El P t e size bytes) (hgd : o.guard = none) (s x : Operand)
    (ho : o.op = .call { callee := .builtin .append, args := #[s, x], argTypes := #[t, t] })
    (base : Nat) (v : Value) (n : Nat) (xs : List Value) (hs : a.eval s = v) (hown : W.ownsRow base e size v n xs)
    (ad : Addr) (m c : Nat) (news : List Value) (hx : a.eval x = .slice (some ad) m c) (hm : 1 ≤ m) (hl : news.length = m * size) (hnews : ∀ j u, news[j]? = some u → W.cell? (ad.add j) = some u) (h1 : ∀ u ∈ news, u.oneCell' = true)
    (hn : (n + m) * bytes ≤ 140737488355328 ∧ n + m ≤ 4611686018427387904) (hbase : base ≤ W.heap.size)
    (h : ∀ v' w', w'.ownsRow base e size v' (n + m) (xs ++ news) → Kept (fun q => v.ownBlock = some q) W w' → Moved W v v' → wpList P ops Q rest (a.put o.dst v') w') :
    wpList P ops Q (o :: rest) a W := by
  obtain ⟨v', w', hr, r1, r2, r3⟩ := run_app (P := P) (ty := o.type) el base v n xs hown ad m c news hm hl hnews h1 (by unfold maxLen; omega) (by omega) hbase
  refine wpList_plain hgd fun K hK' => ?_
  unfold Oper.wp
  simp [execOp, ho, resolve, invoke, builtin, hs, hx, hr, Result.andThen]
  exact hK' _ _ (h v' w' r1 (kept_of_grown r2) r3)
end

theorem one1 {u : Value} (h : u.oneCell' = true) : ∀ x ∈ [u], x.oneCell' = true := by
  intro x hx
  simp at hx
  subst hx
  exact h

end Go.Proofs.YtijkdpdmclkmlaaGreatDoor
