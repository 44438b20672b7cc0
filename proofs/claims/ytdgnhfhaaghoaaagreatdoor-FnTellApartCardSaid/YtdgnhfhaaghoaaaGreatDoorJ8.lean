/- A cell outside of what has turned. No program is in sight. The ends of a state's steps with an action: the reference walked. The states that are reached from a state. Plain law: the program's search and the reference's rounds give the same list. append of one element that has just been laid, said shortly: where the row lies afterwards, and what has turned. No program is in sight. Tables of rows of numbers: one row more, one row put in another's place; l7Rows walked. -/
import Derived.Test.YtdgnhfhaaghoaaaGreatDoorJ0
import Derived.Test.YtdgnhfhaaghoaaaGreatDoorProg
import Derived.Test.YtdgnhfhaaghoaaaGreatDoorJ4
import Derived.Test.YtdgnhfhaaghoaaaGreatDoorJ7
import Derived.ArgAppend
import Derived.OwnWalk
set_option linter.unusedSimpArgs false
set_option linter.unusedVariables false
namespace Go.Proofs.YtdgnhfhaaghoaaaGreatDoor
open Go.RowKit

theorem kept_cell {S : Nat → Prop} {w w' : World} {p : Addr} {u : Value} (hk : Kept S w w') (h : w.cell? p = some u) (hn : ¬ S p.block) : w'.cell? p = some u :=
  (World.cell?_of_block (hk.block _ (lt_of_cell h) hn)).trans h

theorem new_cell1 (W : World) (v : Value) (t : TypeId) {n : Nat} (hs : W.heap.size = n) : ∀ j u, [v][j]? = some u → (W.alloc (.cells #[v] t)).cell? ((⟨n, 0, none⟩ : Addr).add j) = some u := by
  subst hs
  intro j u hj
  match j, hj with
  | 0, hj =>
    simp at hj
    subst hj
    exact cell_of_row _ _ _ _ _ _ (heap_alloc_new _ _)

end Go.Proofs.YtdgnhfhaaghoaaaGreatDoor

set_option linter.unusedVariables false
namespace Go.Proofs.YtdgnhfhaaghoaaaGreatDoor
open Go.RowKit

set_option maxRecDepth 100000 in
set_option maxHeartbeats 4000000 in
theorem l11Next_any (v : Value) (l : Lab) (p q : Int) (w : World) (hs : SmallLab l) (hv : RLab w v l) :
    Calls Tryz.prog 137 #[v, .int .i64 p, .int .i64 q] w fun e w' => ∃ r, e = .returned r ∧ w'.ownsRow w.heap.size 3 1 r (nextA l.steps p q).length (ints (nextA l.steps p q)) ∧ Below w.heap.size w w' := by
  obtain ⟨i0, hi, hz0, hz1, hz2⟩ := info_parts info_ci
  obtain ⟨sv, tv, rfl, hsv, htv⟩ := hv
  have hn := hs.2.1
  obtain ⟨A, c, vs, rfl, _, _, _, _⟩ := hsv
  have htv' := htv
  obtain ⟨B, d, rfl, _, _⟩ := htv
  have HV := Lib.hid (show ∀ W, Below w.heap.size w W → RA3 W (.slice B l.steps.length d) l.steps from fun W hb => htv'.below hb)
  clear htv' hs
  have hb0 : Below w.heap.size w (w.alloc (.cells #[.slice A l.shows.length c, .slice B l.steps.length d] 27)) := (Below.refl _ _).alloc (Nat.le_refl _) _
  have hbx := (heap_alloc_old (w.alloc (.cells #[.slice A l.shows.length c, .slice B l.steps.length d] 27)) (.cells #[] 3) (by simp)).trans (heap_alloc_new w (.cells #[.slice A l.shows.length c, .slice B l.steps.length d] 27))
  have HBX := Lib.hid hbx
  have hown0 := World.ownsRow_made (e := 3) (size := 1) (w.alloc (.cells #[.slice A l.shows.length c, .slice B l.steps.length d] 27)) #[] 0 (Nat.le_refl _) (Nat.zero_le _) rfl
  rw [World.size_alloc] at hown0
  have HOWN := Lib.hid hown0
  have HB0 := Lib.hid (hb0.alloc hb0.size (.cells #[] 3))
  clear hbx hown0 hb0
  go_enter Tryz.func137, Tryz.ntmps137
  go_wp2_with fail
  go_loopw [7, 8] (fun u i wr => ∃ k : Nat, k ≤ l.steps.length ∧ i = .int .i64 k ∧ wr.ownsRow (w.heap.size + 1) 3 1 u (nextA (l.steps.take k) p q).length (ints (nextA (l.steps.take k) p q)) ∧ Below w.heap.size w wr ∧ wr.heap[w.heap.size]? = some (.cells #[.slice A l.shows.length c, .slice B l.steps.length d] 27))
    (fun _ i _ => l.steps.length - (intOf i).toNat)
  case atStart => exact ⟨0, Nat.zero_le _, rfl, HOWN.out, HB0.out, HBX.out⟩
  case round =>
    clear HOWN HB0 HBX
    obtain ⟨k, hk, rfl, hown, hbel, hbx⟩ := hrel
    obtain ⟨AO, cO, rfl, hown⟩ := owns_form hown
    have hsz := hbel.size
    have hlt0 := (Array.getElem?_eq_some_iff.1 hbx).1
    have x1 : wr.cell? ⟨w.heap.size, 1, none⟩ = some (.slice B l.steps.length d) := cell_of_row _ _ _ _ _ _ hbx
    by_cases hlt : k < l.steps.length
    · obtain ⟨b, o, c', e, h0, h1, h2⟩ := (HV.out wr hbel).at_ (List.getElem?_eq_getElem hlt)
      cases e
      have hnx := nextA_take p q hlt
      have hln := nextA_len l.steps p q k
      have HO := Lib.hid hown
      have HBE := Lib.hid hbel
      generalize l.steps[k] = s at *
      generalize nextA (l.steps.take k) p q = lk at *
      have b0 : (0 : Int) ≤ (k : Int) := by omega
      have b1 : (k : Int) < (l.steps.length : Int) := by omega
      have hA : Below wr.heap.size wr (wr.alloc (.cells #[.int .i64 s.1, .int .i64 s.2.1, .int .i64 s.2.2] 103)) := (Below.refl _ _).alloc (Nat.le_refl _) _
      have hbA := hbel.trans (hA.mono hbel.size)
      have HOA := Lib.hid (hown.alloc (.cells #[.int .i64 s.1, .int .i64 s.2.1, .int .i64 s.2.2] 103))
      have HBA := Lib.hid hbA
      have HBXA := Lib.hid ((heap_alloc_old wr (.cells #[.int .i64 s.1, .int .i64 s.2.1, .int .i64 s.2.2] 103) hlt0).trans hbx)
      have hszA := hbA.size
      clear hown hbel hA hbA hbx
      cases hp : ((s.1 == p) && (s.2.1 == q))
      · rw [hp, if_neg Bool.false_ne_true] at hnx
        have HN := Lib.hid hnx
        clear hnx
        cases hp1 : (s.1 == p)
        · go_wp2_with fail
          go_roundw
          case rel => exact ⟨k + 1, by omega, by go_num, by rw [HN.out]; exact HOA.out, HBA.out, HBXA.out⟩
          case measure => simp [intOf]; omega
        · rw [hp1, Bool.true_and] at hp
          go_wp2_with fail
          go_roundw
          case rel => exact ⟨k + 1, by omega, by go_num, by rw [HN.out]; exact HOA.out, HBA.out, HBXA.out⟩
          case measure => simp [intOf]; omega
      · rw [hp, if_pos rfl] at hnx
        have HN := Lib.hid hnx
        rw [Bool.and_eq_true] at hp
        obtain ⟨hp1, hp2⟩ := hp
        clear hnx
        go_wp2_with (at_builtin; refine wpList_append_own _ rfl _ _ 30 rfl (w.heap.size + 1) 3 i0 (.int .i64 0) 1 8 Tryz.underlying30 hi hz0 hz1 hz2 rfl (by decide) _ _ _ rfl (HOA.out.alloc _) ⟨wr.heap.size + 1, 0, none⟩ 1 1 [.int .i64 s.2.2] rfl rfl ?c1 ?c2 ?c3 ?c4 ?c5 ?_)
        case c1 => intro j u hj; match j, hj with | 0, hj => (simp at hj; subst hj; simp [Addr.add])
        case c2 => intro u hu; simp at hu; subst hu; rfl
        case c3 => unfold maxLen; omega
        case c4 => omega
        case c5 => simp; omega
        intro v2 w2 hown2 hgrow2 _
        have hints : ints lk ++ [.int .i64 s.2.2] = ints (nextA (l.steps.take (k + 1)) p q) := by rw [HN.out]; simp [ints]
        have hlen : lk.length + 1 = (nextA (l.steps.take (k + 1)) p q).length := by rw [HN.out]; simp
        rw [hints, hlen] at hown2
        have HO2 := Lib.hid hown2
        have HG2 := Lib.hid ((HBA.out.alloc hszA _).grown hgrow2 (by simp; omega) (fun q hq => by have := (HO.out.lt q hq).1; omega))
        have HBX2 := Lib.hid ((hgrow2.block w.heap.size (by simp; omega) (fun e => by have := (HO.out.lt _ e.symm).1; omega)).trans ((heap_alloc_old _ _ (by simp; omega)).trans HBXA.out))
        clear hown2 hgrow2 hints hlen
        go_wp2_with fail
        go_roundw
        case rel => exact ⟨k + 1, by omega, by go_num, HO2.out, HG2.out, HBX2.out⟩
        case measure => simp [intOf]; omega
    · obtain rfl : k = l.steps.length := by omega
      rw [List.take_length] at hown ⊢
      have HO := Lib.hid (owns_mono hown (Nat.le_succ w.heap.size))
      have HBE := Lib.hid hbel
      clear hown hbel hbx
      go_wp2_with fail
      go_ret
      exact ⟨_, rfl, HO.out, HBE.out⟩

end Go.Proofs.YtdgnhfhaaghoaaaGreatDoor

set_option linter.unusedVariables false
namespace Go.Proofs.YtdgnhfhaaghoaaaGreatDoor

/-- A set of states that steps do not leave. -/
def Closed (ss : List I3) (C : Int → Prop) : Prop := ∀ s ∈ ss, C s.1 → C s.2.2

/-- The list has p, steps do not leave it, and each such set has all of it. -/
def IsReach (ss : List I3) (p : Int) (o : List Int) : Prop := p ∈ o ∧ Closed ss (· ∈ o) ∧ ∀ C : Int → Prop, C p → Closed ss C → ∀ x ∈ o, C x

theorem IsReach.same {ss : List I3} {p : Int} {a b : List Int} (ha : IsReach ss p a) (hb : IsReach ss p b) (x : Int) : x ∈ a ↔ x ∈ b :=
  ⟨fun h => ha.2.2 _ hb.1 hb.2.1 x h, fun h => hb.2.2 _ ha.1 ha.2.1 x h⟩

/-- All numbers in steps are states. -/
def StepsN (n : Nat) (ss : List I3) : Prop := ∀ s ∈ ss, ∃ i j : Nat, s.1 = (i : Int) ∧ s.2.2 = (j : Int) ∧ i < n ∧ j < n

theorem getD_mem {l : List Int} {j : Nat} (h : j < l.length) : l.getD j 0 ∈ l := by
  simp [List.getD, h]
end Go.Proofs.YtdgnhfhaaghoaaaGreatDoor

set_option linter.unusedVariables false
namespace Go.Proofs.YtdgnhfhaaghoaaaGreatDoor
open Go.RowKit

/-- What the laws of append ask of an element's type. -/
def El (P : Program) (t e : TypeId) (size bytes : Nat) : Prop :=
  P.underlying t = some (.slice e) ∧ ∃ i z, P.info? e = some i ∧ i.zero = some z ∧ i.size = size ∧ i.bytes = bytes ∧ z.cells.size = size ∧ 0 < size

theorem El.mk' {P : Program} {t e : TypeId} {z : Value} {size bytes : Nat} (ht : P.underlying t = some (.slice e)) (hi : (P.info? e).map (fun i => (i.zero, i.size, i.bytes)) = some (some z, size, bytes)) (hz : z.cells.size = size) (h0 : 0 < size) : El P t e size bytes := by
  obtain ⟨i, h1, h2, h3, h4⟩ := info_parts hi
  exact ⟨ht, i, z, h1, h2, h3, h4, hz, h0⟩

/-- The row lies where it lay, or in new memory. -/
def Moved (w : World) (v v' : Value) : Prop := ∀ q, v'.ownBlock = some q → v.ownBlock = some q ∨ w.heap.size ≤ q

theorem grown_none {w w' : World} {row : Option Nat} (h : w.grownBy w' none) : w.grownBy w' row :=
  ⟨h.os, h.tape, h.output, h.size, fun k hk _ => h.block k hk (by simp)⟩

theorem run_app {P : Program} {w : World} {t ty e : TypeId} {size bytes : Nat} (el : El P t e size bytes) (base : Nat) (v : Value) (n : Nat) (xs : List Value) (hown : w.ownsRow base e size v n xs)
    (ad : Addr) (m c : Nat) (news : List Value) (hm : 1 ≤ m) (hl : news.length = m * size) (hnews : ∀ j u, news[j]? = some u → w.cell? (ad.add j) = some u) (h1 : ∀ u ∈ news, u.oneCell' = true)
    (h63 : n + m ≤ maxLen) (hbytes : (n + m) * bytes ≤ 140737488355328) (hbase : base ≤ w.heap.size) :
    ∃ v' w', (Builtin.append_ #[t, t] ty #[v, .slice (some ad) m c]).run P w = .ok v' w' ∧ w'.ownsRow base e size v' (n + m) (xs ++ news) ∧ w.grownBy w' v.ownBlock ∧ Moved w v v' := by
  obtain ⟨ht, i, z, hi, hz, hs, hb, hzs, h0⟩ := el
  rcases hown.2 with ⟨rfl, rfl⟩ | ⟨g, cap, cur, rfl, hbg, hg, hn, hcap, hsz, htake⟩
  · obtain ⟨v', w', hr, r1, r2, _⟩ := run_append_own (P := P) w w.heap.size t ty e i z size bytes ht hi hz hs hb hzs h0 (.slice none 0 0) 0 xs ⟨hown.1, .inl ⟨rfl, rfl⟩⟩ ad m c news hl hnews h1 h63 hbytes (Nat.le_refl _)
    refine ⟨v', w', hr, ⟨r1.1, ?_⟩, r2, fun q hq => .inr (r1.lt q hq).1⟩
    rcases r1.2 with h | ⟨g, cap, cur, e1, e2, rest⟩
    · exact .inl h
    · exact .inr ⟨g, cap, cur, e1, Nat.le_trans hbase e2, rest⟩
  · by_cases hr : n + m ≤ cap
    · obtain ⟨w', hrun, r1, r2⟩ := run_append_fits (P := P) w base t ty e i size ht hi hs g n cap xs hown ad m c news hl hnews h1 hr
      exact ⟨_, w', hrun, r1, r2, fun q hq => .inl hq⟩
    · obtain ⟨v', w', hrun, r1, r2⟩ := run_append_arg_grows (P := P) w t ty e i z size bytes ht hi hz hs hb hzs h0 ⟨g, 0, none⟩ n cap xs hown.1 (fun j u hj => hown.cells (g := g) rfl j u hj) ad m c news hl hnews (by omega) h63 hbytes
      refine ⟨v', w', hrun, ⟨r1.1, ?_⟩, grown_none r2, fun q hq => .inr (r1.lt q hq).1⟩
      rcases r1.2 with h | ⟨g, cap, cur, e1, e2, rest⟩
      · exact .inl h
      · exact .inr ⟨g, cap, cur, e1, Nat.le_trans hbase e2, rest⟩

theorem kept_of_grown {w w' : World} {row : Option Nat} (h : w.grownBy w' row) : Kept (fun q => row = some q) w w' :=
  ⟨h.os, h.tape, h.output, h.size, fun k hk hn => h.block k hk (fun e => hn e.symm)⟩

theorem below_kept {B : Nat} {a w w' : World} {S : Nat → Prop} (hb : Below B a w) (hk : Kept S w w') (hs : ∀ q, S q → B ≤ q) (hB : B ≤ w.heap.size) : Below B a w' :=
  hb.trans (hk.below hs hB)

section
variable {P : Program} {W : World} {ops : Array Oper} {rest : List Oper} {o : Oper} {a : Act} {Q : Exit → Act → World → Prop}

theorem app_facts {t ty e T : TypeId} {size bytes : Nat} (el : El P t e size bytes) (base : Nat) (v : Value) (n : Nat) (xs : List Value) (hown : W.ownsRow base e size v n xs)
    (news : List Value) (hl : news.length = size) (h1 : ∀ u ∈ news, u.oneCell' = true) (hn : (n + 1) * bytes ≤ 140737488355328 ∧ n ≤ 4611686018427387904) (hbase : base ≤ W.heap.size) :
    ∃ v' w', (Builtin.append_ #[t, t] ty #[v, .slice (some ⟨W.heap.size, 0, none⟩) 1 1]).run P (W.alloc (.cells news.toArray T)) = .ok v' w' ∧ w'.ownsRow base e size v' (n + 1) (xs ++ news) ∧ Kept (fun q => v.ownBlock = some q) W w' ∧ Moved W v v' := by
  obtain ⟨v', w', h, r1, r2, r3⟩ := run_app (P := P) (ty := ty) el base v n xs (hown.alloc (.cells news.toArray T)) ⟨W.heap.size, 0, none⟩ 1 1 news (Nat.le_refl _) (by omega) (fun j u hj => by
      rw [Addr.add_lit, Nat.zero_add, cell_of_row _ _ _ _ _ _ (heap_alloc_new W (.cells news.toArray T))]
      simpa using hj) h1 (by unfold maxLen; omega) (by omega) (by simp; omega)
  refine ⟨v', w', h, r1, (Kept.of_below ((Below.refl _ W).alloc (Nat.le_refl _) _) _).trans (kept_of_grown r2), fun q hq => ?_⟩
  rcases r3 q hq with h | h
  · exact .inl h
  · exact .inr (by simp at h; omega)

/-- append of one element, laid just before. -/
theorem wpList_app {t e T : TypeId} {size bytes : Nat} (el : El P t e size bytes) (hgd : o.guard = none) (s x : Operand)
    (ho : o.op = .call { callee := .builtin .append, args := #[s, x], argTypes := #[t, t] })
    (base : Nat) (v : Value) (n : Nat) (xs : List Value) (hs : a.eval s = v) (hown : W.ownsRow base e size v n xs)
    (news : List Value) {nb : Nat} (hx : a.eval x = .slice (some ⟨nb, 0, none⟩) 1 1) (hnb : W.heap.size = nb) (hl : news.length = size) (h1 : ∀ u ∈ news, u.oneCell' = true) (hn : (n + 1) * bytes ≤ 140737488355328 ∧ n ≤ 4611686018427387904) (hbase : base ≤ W.heap.size)
    (h : ∀ v' w', w'.ownsRow base e size v' (n + 1) (xs ++ news) → Kept (fun q => v.ownBlock = some q) W w' → Moved W v v' → wpList P ops Q rest (a.put o.dst v') w') :
    wpList P ops Q (o :: rest) a (W.alloc (.cells news.toArray T)) := by
  subst hnb
  obtain ⟨v', w', hr, r1, r2, r3⟩ := app_facts (ty := o.type) (T := T) el base v n xs hown news hl h1 hn hbase
  refine wpList_plain hgd fun K hK' => ?_
  unfold Oper.wp
  simp [execOp, ho, resolve, invoke, builtin, hs, hx, hr, Result.andThen]
  exact hK' _ _ (h v' w' r1 r2 r3)

end

theorem one1 {u : Value} (h : u.oneCell' = true) : ∀ x ∈ [u], x.oneCell' = true := by
  intro x hx
  simp at hx
  subst hx
  exact h

end Go.Proofs.YtdgnhfhaaghoaaaGreatDoor

set_option linter.unusedVariables false
namespace Go.Proofs.YtdgnhfhaaghoaaaGreatDoor
open Go.RowKit

theorem el_int : El Tryz.prog 30 3 1 8 := El.mk' Tryz.underlying30 (by kernel_rfl : _ = some (some (.int .i64 0), 1, 8)) rfl (by decide)
theorem el_ints : El Tryz.prog 24 30 1 24 := El.mk' Tryz.underlying24 (by kernel_rfl : _ = some (some (.slice none 0 0), 1, 24)) rfl (by decide)
theorem el_a3 : El Tryz.prog 25 103 3 24 := El.mk' Tryz.underlying25 (by kernel_rfl : _ = some (some (.agg #[.int .i64 0, .int .i64 0, .int .i64 0]), 3, 24)) rfl (by decide)

theorem owns_kept {w w' : World} {S : Nat → Prop} {B : Nat} {e : TypeId} {s : Nat} {v : Value} {n : Nat} {xs : List Value} (h : w.ownsRow B e s v n xs) (hk : Kept S w w') (hd : ∀ g, v.ownBlock = some g → ¬ S g) : w'.ownsRow B e s v n xs := by
  refine ⟨h.1, ?_⟩
  rcases h.2 with hn | ⟨g, cap, cur, rfl, hbg, hg, rest⟩
  · exact .inl hn
  · have := (Array.getElem?_eq_some_iff.1 hg).1
    exact .inr ⟨g, cap, cur, rfl, hbg, by rw [hk.block g this (hd g rfl)]; exact hg, rest⟩

/-- A table whose rows are all there. -/
def TRN (w : World) (B : Nat) (u : Value) (xss : List (List Int)) : Prop :=
  ∃ vs : List Value, w.ownsRow B 30 1 u xss.length vs ∧ (∀ (i : Nat) v xs, vs[i]? = some v → xss[i]? = some xs → w.ownsRow B 3 1 v xs.length (ints xs)) ∧
    (∀ (i j : Nat) v v' b, i < j → vs[i]? = some v → vs[j]? = some v' → v.ownBlock = some b → v'.ownBlock ≠ some b) ∧ ∀ (i : Nat) v, vs[i]? = some v → ∃ b, v.ownBlock = some b

section
variable {w w1 w2 w' : World} {B : Nat} {u u2 r : Value} {l : List (List Int)} {x : List Int} {vs : List Value}
theorem TRN.rows (h : TRN w B u l) : TRows w B u l := by
  obtain ⟨vs, a, b, c, _⟩ := h
  exact ⟨vs, a, b, c⟩
theorem TRN.nil (h : w.ownsRow B 30 1 u 0 []) : TRN w B u [] := ⟨[], h, fun i v xs h => by simp at h, fun i j v v' b _ h => by simp at h, fun i v h => by simp at h⟩
theorem TRN.below {B2 : Nat} (h : TRN w B u l) (hb : Below B2 w w') (hB : w.heap.size ≤ B2) : TRN w' B u l := by
  obtain ⟨vs, h1, h2, h3, h4⟩ := h
  exact ⟨vs, owns_below h1 hb hB, fun i v xs a b => owns_below (h2 i v xs a b) hb hB, h3, h4⟩
theorem TRN.kept {S : Nat → Prop} (h : TRN w B u l) (hk : Kept S w w') (hd : ∀ (vs : List Value), w.ownsRow B 30 1 u l.length vs → (∀ g, u.ownBlock = some g → ¬ S g) ∧ ∀ (v : Value) n xs, w.ownsRow B 3 1 v n xs → ∀ g, v.ownBlock = some g → ¬ S g) : TRN w' B u l := by
  obtain ⟨vs, h1, h2, h3, h4⟩ := h
  obtain ⟨d1, d2⟩ := hd vs h1
  exact ⟨vs, owns_kept h1 hk d1, fun i v xs a b => owns_kept (h2 i v xs a b) hk (d2 _ _ _ (h2 i v xs a b)), h3, h4⟩
theorem TRN.push (h1 : w.ownsRow B 30 1 u l.length vs) (h2 : ∀ (i : Nat) v xs, vs[i]? = some v → l[i]? = some xs → w.ownsRow B 3 1 v xs.length (ints xs))
    (h3 : ∀ (i j : Nat) v v' b, i < j → vs[i]? = some v → vs[j]? = some v' → v.ownBlock = some b → v'.ownBlock ≠ some b) (h4 : ∀ (i : Nat) v, vs[i]? = some v → ∃ b, v.ownBlock = some b)
    (hB : B ≤ w.heap.size) (hr : w1.ownsRow w.heap.size 3 1 r x.length (ints x)) (hn : ∃ b, r.ownBlock = some b) (hb : Below w.heap.size w w1)
    (ho : w2.ownsRow B 30 1 u2 (l.length + 1) (vs ++ [r])) (hk : Kept (fun q => u.ownBlock = some q) w1 w2) : TRN w2 B u2 (l ++ [x]) := by
  have hvl : vs.length = l.length := by have := h1.1; omega
  have hu1 : w1.ownsRow B 30 1 u l.length vs := owns_below h1 hb (Nat.le_refl _)
  refine ⟨vs ++ [r], by rw [List.length_append]; exact ho, fun i v xs hv hx => ?_, fun i j v v' b hij hv hv' hvb => ?_, fun i v hv => ?_⟩
  · rcases Nat.lt_trichotomy i vs.length with hi | hi | hi
    · rw [List.getElem?_append_left hi] at hv
      rw [List.getElem?_append_left (by omega)] at hx
      have ha := owns_below (h2 i v xs hv hx) hb (Nat.le_refl _)
      exact owns_kept ha hk (fun g hgv => owns_apart' ha hu1 (by decide) g hgv)
    · subst hi
      rw [List.getElem?_append_right (Nat.le_refl _), Nat.sub_self] at hv
      rw [hvl, List.getElem?_append_right (Nat.le_refl _), Nat.sub_self] at hx
      simp at hv hx
      subst hv
      subst hx
      have ha := owns_mono hr hB
      exact owns_kept ha hk (fun g hgv => owns_apart' ha hu1 (by decide) g hgv)
    · rw [List.getElem?_eq_none (by simp; omega)] at hv
      cases hv
  · have hj : j ≤ vs.length := by
      have := (List.getElem?_eq_some_iff.1 hv').1
      simp at this
      omega
    rw [List.getElem?_append_left (by omega)] at hv
    rcases Nat.lt_or_eq_of_le hj with hj | hj
    · rw [List.getElem?_append_left hj] at hv'
      exact h3 i j v v' b hij hv hv' hvb
    · subst hj
      rw [List.getElem?_append_right (Nat.le_refl _), Nat.sub_self] at hv'
      simp at hv'
      subst hv'
      have hil : i < l.length := by omega
      have a1 := ((h2 i v _ hv (List.getElem?_eq_getElem hil)).lt b hvb).2
      intro e
      have a2 := (hr.lt b e).1
      omega
  · rcases Nat.lt_trichotomy i vs.length with hi | hi | hi
    · rw [List.getElem?_append_left hi] at hv
      exact h4 i v hv
    · subst hi
      rw [List.getElem?_append_right (Nat.le_refl _), Nat.sub_self] at hv
      simp at hv
      subst hv
      exact hn
    · rw [List.getElem?_eq_none (by simp; omega)] at hv
      cases hv

/-- A row in another's place. -/
theorem TRN.put {g c n i : Nat} (h : TRN w B (.slice (some ⟨g, 0, none⟩) n c) l) (hl : l.length = n) (hi : i < n) (hB : B ≤ w.heap.size) (hr : w1.ownsRow w.heap.size 3 1 r x.length (ints x)) (hn : ∃ b, r.ownBlock = some b) (hb : Below w.heap.size w w1) :
    TRN (w1.setCell ⟨g, i, none⟩ r) B (.slice (some ⟨g, 0, none⟩) n c) (l.set i x) := by
  subst hl
  obtain ⟨vs, h1, h2, h3, h4⟩ := h
  have hvl : vs.length = l.length := by have := h1.1; omega
  have hu1 := owns_below h1 hb (Nat.le_refl _)
  have hst := hu1.stored i r
  have hk : Kept (fun q => q = g) w1 (w1.setCell ⟨g, i, none⟩ r) := (Kept.refl _ _).setCell (S := fun q => q = g) (p := ⟨g, i, none⟩) rfl r
  have hap : ∀ {v : Value} {m : Nat} {cs : List Value}, w1.ownsRow B 3 1 v m cs → (w1.setCell ⟨g, i, none⟩ r).ownsRow B 3 1 v m cs := fun {v m cs} ha =>
    owns_kept ha hk (fun b hb e => by subst e; exact owns_apart' ha hu1 (by decide) b hb rfl)
  have hown := hst.1
  refine ⟨vs.set i r, by rw [List.length_set]; exact hown, fun j v xs hv hx => ?_, fun j k v v' b hjk hv hv' hvb => ?_, fun j v hv => ?_⟩
  · by_cases e : i = j
    · subst e
      rw [List.getElem?_set_self (by omega)] at hv hx
      injection hv with hv
      injection hx with hx
      subst hv
      subst hx
      exact hap (owns_mono hr hB)
    · rw [List.getElem?_set_ne e] at hv hx
      exact hap (owns_below (h2 j v xs hv hx) hb (Nat.le_refl _))
  · have hlt : ∀ (j : Nat) v, vs[j]? = some v → v.ownBlock = some b → b < w.heap.size := fun j v hv hvb => by
      have hj := (List.getElem?_eq_some_iff.1 hv).1
      exact ((h2 j v _ hv (List.getElem?_eq_getElem (by omega))).lt b hvb).2
    by_cases e : i = j
    · subst e
      rw [List.getElem?_set_self (by omega)] at hv
      rw [List.getElem?_set_ne (by omega)] at hv'
      injection hv with hv
      subst hv
      intro e'
      have := hlt k v' hv' e'
      have := (hr.lt b hvb).1
      omega
    · rw [List.getElem?_set_ne e] at hv
      by_cases e2 : i = k
      · subst e2
        rw [List.getElem?_set_self (by omega)] at hv'
        injection hv' with hv'
        subst hv'
        intro e'
        have := hlt j v hv hvb
        have := (hr.lt b e').1
        omega
      · rw [List.getElem?_set_ne e2] at hv'
        exact h3 j k v v' b hjk hv hv' hvb
  · by_cases e : i = j
    · subst e
      rw [List.getElem?_set_self (by omega)] at hv
      injection hv with hv
      subst hv
      exact hn
    · rw [List.getElem?_set_ne e] at hv
      exact h4 j v hv

/-- A row, read: where it is and what it holds. -/
theorem TRN.at_ {i : Nat} (h : TRN w B u l) (hi : i < l.length) : ∃ g c b d, u = .slice (some ⟨g, 0, none⟩) l.length c ∧ B ≤ g ∧ g < w.heap.size ∧ B ≤ b ∧ w.cell? ⟨g, i, none⟩ = some (.slice (some ⟨b, 0, none⟩) (l[i]).length d) ∧ w.frozen? ⟨g, i, none⟩ = false ∧ (l[i]).length ≤ d ∧ Cells w (some ⟨b, 0, none⟩) (ints l[i]) := by
  obtain ⟨vs, h1, h2, h3, h4⟩ := h
  have hvl : vs.length = l.length := by have := h1.1; omega
  have hv : vs[i]? = some (vs[i]'(by omega)) := List.getElem?_eq_getElem (by omega)
  have ho := h2 i _ _ hv (List.getElem?_eq_getElem hi)
  obtain ⟨b, hb⟩ := h4 i _ hv
  have h1' := h1
  rcases h1.2 with ⟨_, e⟩ | ⟨g, c, cur, rfl, hg0, hg1, _⟩
  · omega
  have hc := h1'.cellAt i (by omega)
  have hf := h1'.frozenAt i
  rw [hv] at hc
  rcases ho.2 with ⟨e, _⟩ | ⟨b', d, cur', e, hb0, _, hd, _⟩
  · rw [e] at hb
    simp [Value.ownBlock] at hb
  rw [e] at hb hc ho
  simp only [Value.ownBlock, Option.some.injEq] at hb
  subst hb
  exact ⟨g, c, b', d, rfl, hg0, (Array.getElem?_eq_some_iff.1 hg1).1, hb0, hc, hf, hd, Cells.of_owns ho⟩
end

theorem made_row (w : World) (t : TypeId) : (w.alloc (.cells #[] t)).ownsRow w.heap.size t 1 (.slice (some ⟨w.heap.size, 0, none⟩) 0 0) 0 [] := World.ownsRow_made w #[] 0 (Nat.le_refl _) (Nat.zero_le _) rfl

end Go.Proofs.YtdgnhfhaaghoaaaGreatDoor
