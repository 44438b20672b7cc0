/- Tables of rows that grow by appending: l7Table walked. A labelled system of a call's own: a table and a row of triples. A region that draws its order, by what holds while it is under way: each operation is shown once, whatever came before it. No program is in sight. -/
import Derived.Test.YtdgnhfhaaghoaaaGreatDoorProg
import Derived.Test.YtdgnhfhaaghoaaaGreatDoorJ3
import Derived.Deep.RegionLaw
import Derived.Test.YtdgnhfhaaghoaaaGreatDoorJ2
import Derived.RegionTactic
import Derived.WalkKit
import Derived.NoCompiler
set_option linter.unusedSimpArgs false
set_option linter.unusedVariables false
namespace Go.Proofs.YtdgnhfhaaghoaaaGreatDoor
open Go.RowKit

theorem owns_apart' {w : World} {B1 B2 : Nat} {e1 e2 : TypeId} {s1 s2 : Nat} {v1 v2 : Value} {n1 n2 : Nat} {xs1 xs2 : List Value} (h1 : w.ownsRow B1 e1 s1 v1 n1 xs1) (h2 : w.ownsRow B2 e2 s2 v2 n2 xs2) (he : e1 ≠ e2) (g : Nat) (hg : v1.ownBlock = some g) : v2.ownBlock ≠ some g := by
  intro hg2
  rcases h1.2 with ⟨rfl, _⟩ | ⟨g1, _, _, rfl, _, a1, _⟩
  · simp [Value.ownBlock] at hg
  · rcases h2.2 with ⟨rfl, _⟩ | ⟨g2, _, _, rfl, _, a2, _⟩
    · simp [Value.ownBlock] at hg2
    · simp only [Value.ownBlock, Option.some.injEq] at hg hg2
      subst hg
      subst hg2
      rw [a1] at a2
      injection a2 with a2
      injection a2 with _ a2
      exact he a2
theorem owns_grown' {w w' : World} {B : Nat} {e : TypeId} {s : Nat} {v : Value} {n : Nat} {xs : List Value} {row : Option Nat} (h : w.ownsRow B e s v n xs) (hg : w.grownBy w' row) (hne : ∀ g, v.ownBlock = some g → row ≠ some g) : w'.ownsRow B e s v n xs := by
  refine ⟨h.1, ?_⟩
  rcases h.2 with hn | ⟨g, cap, cur, rfl, hbg, hgg, rest⟩
  · exact .inl hn
  · have hlt := (Array.getElem?_eq_some_iff.1 hgg).1
    exact .inr ⟨g, cap, cur, rfl, hbg, by rw [hg.block g hlt (hne g rfl).symm]; exact hgg, rest⟩

/-- A table: a row of slices, each a row of its own. -/
def TRows (w : World) (B : Nat) (u : Value) (xss : List (List Int)) : Prop :=
  ∃ vs : List Value, w.ownsRow B 30 1 u xss.length vs ∧ (∀ (i : Nat) v xs, vs[i]? = some v → xss[i]? = some xs → w.ownsRow B 3 1 v xs.length (ints xs)) ∧
    (∀ (i j : Nat) v v' b, i < j → vs[i]? = some v → vs[j]? = some v' → v.ownBlock = some b → v'.ownBlock ≠ some b)

/-- One row more. -/
theorem TRows.push {w w1 w2 : World} {B : Nat} {u u2 r : Value} {l : List (List Int)} {x : List Int} {vs : List Value} {o : Obj}
    (h1 : w.ownsRow B 30 1 u l.length vs) (h2 : ∀ (i : Nat) v xs, vs[i]? = some v → l[i]? = some xs → w.ownsRow B 3 1 v xs.length (ints xs))
    (h3 : ∀ (i j : Nat) v v' b, i < j → vs[i]? = some v → vs[j]? = some v' → v.ownBlock = some b → v'.ownBlock ≠ some b)
    (hB : B ≤ w.heap.size) (hr : w1.ownsRow w.heap.size 3 1 r x.length (ints x)) (hb : Below w.heap.size w w1)
    (ho : w2.ownsRow B 30 1 u2 (l.length + 1) (vs ++ [r])) (hg : (w1.alloc o).grownBy w2 u.ownBlock) : TRows w2 B u2 (l ++ [x]) := by
  have hvl : vs.length = l.length := by have := h1.1; omega
  have hu1 : (w1.alloc o).ownsRow B 30 1 u l.length vs := (owns_below h1 hb (Nat.le_refl _)).alloc _
  refine ⟨vs ++ [r], by rw [List.length_append]; exact ho, fun i v xs hv hx => ?_, fun i j v v' b hij hv hv' hvb => ?_⟩
  · rcases Nat.lt_trichotomy i vs.length with hi | hi | hi
    · rw [List.getElem?_append_left hi] at hv
      rw [List.getElem?_append_left (by omega)] at hx
      have ha : (w1.alloc o).ownsRow B 3 1 v xs.length (ints xs) := (owns_below (h2 i v xs hv hx) hb (Nat.le_refl _)).alloc _
      exact owns_grown' ha hg (fun g hgv => owns_apart' ha hu1 (by decide) g hgv)
    · subst hi
      rw [List.getElem?_append_right (Nat.le_refl _), Nat.sub_self] at hv
      rw [hvl, List.getElem?_append_right (Nat.le_refl _), Nat.sub_self] at hx
      simp at hv hx
      subst hv
      subst hx
      have ha : (w1.alloc o).ownsRow B 3 1 r x.length (ints x) := (owns_mono hr hB).alloc _
      exact owns_grown' ha hg (fun g hgv => owns_apart' ha hu1 (by decide) g hgv)
    · rw [List.getElem?_eq_none (by simp; omega)] at hv
      cases hv
  · have hj : j ≤ vs.length := by
      have := (List.getElem?_eq_some_iff.1 hv').1
      simp at this
      omega
    rw [List.getElem?_append_left (by omega)] at hv
    rcases Nat.lt_or_eq_of_le hj with hj | hj
    · rw [List.getElem?_append_left hj] at hv'
      exact h3 i j v v' b hij hv hv' hvb
    · subst hj
      rw [List.getElem?_append_right (Nat.le_refl _), Nat.sub_self] at hv'
      simp at hv'
      subst hv'
      have hil : i < l.length := by omega
      have a1 := ((h2 i v _ hv (List.getElem?_eq_getElem hil)).lt b hvb).2
      intro e
      have a2 := (hr.lt b e).1
      omega

theorem info_cs : (Tryz.prog.info? 30).map (fun i => (i.zero, i.size, i.bytes)) = some (some (.slice none 0 0), 1, 24) := by kernel_rfl

set_option maxRecDepth 100000 in
set_option maxHeartbeats 4000000 in
theorem l7Table_any (v : Value) (xss : List (List Int)) (w : World) (hv : RSS w v xss) (hn : xss.length ≤ 16777216) (hs : Small xss) :
    Calls Tryz.prog 159 #[v] w fun e w' => ∃ u, e = .returned u ∧ TRows w' w.heap.size u xss ∧ Below w.heap.size w w' := by
  obtain ⟨i0, hi, hz0, hz1, hz2⟩ := info_parts info_cs
  have HV := Lib.hid (show ∀ W, Below w.heap.size w W → RSS W v xss from fun W hb => hv.below hb)
  obtain ⟨A, c, us, rfl, _, hul, hA, hui⟩ := hv
  clear hA hui
  go_enter Tryz.func159, Tryz.ntmps159
  go_wp2_with fail
  go_loopw [3, 4] (fun u i wr => ∃ k : Nat, k ≤ xss.length ∧ i = .int .i64 k ∧ TRows wr w.heap.size u (xss.take k) ∧ Below w.heap.size w wr)
    (fun _ i _ => xss.length - (intOf i).toNat)
  case atStart => exact ⟨0, Nat.zero_le _, rfl, ⟨[], by rw [List.take_zero]; exact World.ownsRow_made w #[] 0 (Nat.le_refl _) (Nat.zero_le _) rfl, fun i v xs h => by simp at h, fun i j v v' b _ h => by simp at h⟩, (Below.refl _ _).alloc (Nat.le_refl _) _⟩
  case round =>
    obtain ⟨k, hk, rfl, htab, hbel⟩ := hrel
    by_cases hlt : k < xss.length
    · obtain ⟨vs, t1, t2, t3⟩ := htab
      obtain ⟨AU, cU, rfl, t1⟩ := owns_form t1
      obtain ⟨A', c', vs', e, _, hvl, hcB, hrow⟩ := HV.out wr hbel
      cases e
      obtain ⟨b, o, rfl, hcb⟩ := hcB.at_ (k := k) (by omega)
      have hck := hcb k _ (List.getElem?_eq_getElem (by omega))
      obtain ⟨A3, c3, e3, hm3, hc3⟩ := hrow k _ _ (List.getElem?_eq_getElem (by omega)) (List.getElem?_eq_getElem hlt)
      rw [e3] at hck
      have hsx := hs _ (List.getElem_mem hlt)
      have htk : xss.take (k + 1) = xss.take k ++ [xss[k]] := List.take_succ_eq_append_getElem hlt
      have hlk : (xss.take k).length = k := by rw [List.length_take]; omega
      rw [hlk] at t1
      have H := Lib.hid (l1Own_any A3 c3 xss[k] wr hsx hc3)
      have HTK := Lib.hid htk
      have T1 := Lib.hid t1
      have T2 := Lib.hid t2
      have T3 := Lib.hid t3
      have HB := Lib.hid hbel
      have hwr := hbel.size
      clear hcb hcB hrow e3 hc3 htk t1 t2 t3 hbel
      generalize xss[k] = x at *
      go_wp2_with fail
      refine H.out.mono ?_
      rintro e w1 ⟨r, rfl, hr, hb1⟩
      obtain ⟨AR, cR, rfl, hr⟩ := owns_form hr
      have hs1 := hb1.size
      have hown1 := (owns_below T1.out hb1 (Nat.le_refl _)).alloc (.cells #[.slice AR x.length cR] 30)
      have HO1 := Lib.hid hown1
      have HR := Lib.hid hr
      have HB1 := Lib.hid hb1
      clear hown1 hr hb1
      go_wp2_with (at_builtin; refine wpList_append_own _ rfl _ _ 24 rfl w.heap.size 30 i0 (.slice none 0 0) 1 24 Tryz.underlying24 hi hz0 hz1 hz2 rfl (by decide) _ _ _ rfl HO1.out ⟨w1.heap.size, 0, none⟩ 1 1 [.slice AR x.length cR] rfl rfl ?c1 ?c2 ?c3 ?c4 ?c5 ?_)
      case c1 => intro j u hj; match j, hj with | 0, hj => (simp at hj; subst hj; simp [Addr.add])
      case c2 => intro u hu; simp at hu; subst hu; rfl
      case c3 => unfold maxLen; omega
      case c4 => omega
      case c5 => simp; omega
      intro v2 w2 hown2 hgrow2 _
      have hp := TRows.push (l := xss.take k) (by rw [hlk]; exact T1.out) T2.out T3.out hwr HR.out HB1.out (by rw [hlk]; exact hown2) hgrow2
      rw [← HTK.out] at hp
      have HP := Lib.hid hp
      have HG := Lib.hid (((HB.out.trans (HB1.out.mono hwr)).alloc (Nat.le_trans hwr hs1) _).grown hgrow2 (by simp; omega) (fun q hq => (HO1.out.lt q hq).1))
      clear hown2 hgrow2 hp
      go_wp2
      go_roundw
      case rel => exact ⟨k + 1, by omega, by go_num, HP.out, HG.out⟩
      case measure => simp [intOf]; omega
    · obtain rfl : k = xss.length := by omega
      rw [List.take_length] at htab
      have HP := Lib.hid htab
      have hT := htab
      obtain ⟨vs, t1, _⟩ := hT
      obtain ⟨AU, cU, rfl, _⟩ := owns_form t1
      clear htab t1
      go_wp2_with fail
      go_ret
      exact ⟨_, rfl, HP.out, hbel⟩

/-- Two tables, one behind the other. -/
theorem TRows.join {w w2 : World} {B B2 : Nat} {u1 u : Value} {l1 l2 : List (List Int)} {vs1 vs2 : List Value}
    (h1 : w.ownsRow B 30 1 u1 l1.length vs1) (h2 : ∀ (i : Nat) v xs, vs1[i]? = some v → l1[i]? = some xs → w.ownsRow B 3 1 v xs.length (ints xs))
    (h3 : ∀ (i j : Nat) v v' b, i < j → vs1[i]? = some v → vs1[j]? = some v' → v.ownBlock = some b → v'.ownBlock ≠ some b)
    (hlow : ∀ (i : Nat) v b, vs1[i]? = some v → v.ownBlock = some b → b < B2) (hl2 : vs2.length = l2.length)
    (k2 : ∀ (i : Nat) v xs, vs2[i]? = some v → l2[i]? = some xs → w.ownsRow B2 3 1 v xs.length (ints xs))
    (k3 : ∀ (i j : Nat) v v' b, i < j → vs2[i]? = some v → vs2[j]? = some v' → v.ownBlock = some b → v'.ownBlock ≠ some b)
    (hB : B ≤ B2) (ho : w2.ownsRow B 30 1 u (l1.length + l2.length) (vs1 ++ vs2)) (hg : w.grownBy w2 u1.ownBlock) : TRows w2 B u (l1 ++ l2) := by
  have hvl : vs1.length = l1.length := by have := h1.1; omega
  refine ⟨vs1 ++ vs2, by rw [List.length_append]; exact ho, fun i v xs hv hx => ?_, fun i j v v' b hij hv hv' hvb => ?_⟩
  · by_cases hi : i < vs1.length
    · rw [List.getElem?_append_left hi] at hv
      rw [List.getElem?_append_left (by omega)] at hx
      have ha := h2 i v xs hv hx
      exact owns_grown' ha hg (fun g hgv => owns_apart' ha h1 (by decide) g hgv)
    · rw [List.getElem?_append_right (by omega)] at hv
      rw [List.getElem?_append_right (by omega), ← hvl] at hx
      have ha := k2 _ v xs hv hx
      exact owns_mono (owns_grown' ha hg (fun g hgv => owns_apart' ha h1 (by decide) g hgv)) hB
  · by_cases hj : j < vs1.length
    · rw [List.getElem?_append_left hj] at hv'
      rw [List.getElem?_append_left (by omega)] at hv
      exact h3 i j v v' b hij hv hv' hvb
    · rw [List.getElem?_append_right (by omega)] at hv'
      by_cases hi : i < vs1.length
      · rw [List.getElem?_append_left hi] at hv
        have a1 := hlow i v b hv hvb
        intro e
        have hjl := (List.getElem?_eq_some_iff.1 hv').1
        have a2 := ((k2 _ v' _ hv' (List.getElem?_eq_getElem (by omega))).lt b e).1
        omega
      · rw [List.getElem?_append_right (by omega)] at hv
        exact k3 _ _ v v' b (by omega) hv hv' hvb

theorem TRows.rss {w : World} {B : Nat} {u : Value} {l : List (List Int)} (h : TRows w B u l) (hn : l.length ≤ 16777216) (hs : Small l) : RSS w u l := by
  obtain ⟨vs, h1, h2, _⟩ := h
  have hvl : vs.length = l.length := by have := h1.1; omega
  obtain ⟨A, c, rfl, h1⟩ := owns_form h1
  refine ⟨A, c, vs, rfl, by unfold maxLen; omega, hvl, Cells.of_owns h1, fun i v xs hv hx => ?_⟩
  have ho := h2 i v xs hv hx
  obtain ⟨A', c', rfl, ho⟩ := owns_form ho
  exact ⟨A', c', rfl, le_maxLen (hs xs (List.mem_of_getElem? hx)), Cells.of_owns ho⟩

theorem TRows.below {w w' : World} {B : Nat} {u : Value} {l : List (List Int)} {B2 : Nat} (h : TRows w B u l) (hb : Below B2 w w') (hB : w.heap.size ≤ B2) : TRows w' B u l := by
  obtain ⟨vs, h1, h2, h3⟩ := h
  exact ⟨vs, owns_below h1 hb hB, fun i v xs a b => owns_below (h2 i v xs a b) hb hB, h3⟩

theorem step_append_own {P : Program} {ops : Array Oper} {o : Oper} {a : Act} {w : World} {K : Act → World → Prop} {Q : Exit → Act → World → Prop} {E : Prop} (hgd : o.guard = none) (s x : Operand) (t : TypeId)
    (ho : o.op = .call { callee := .builtin .append, args := #[s, x], argTypes := #[t, t] })
    (base : Nat) (e : TypeId) (i : TypeInfo) (z : Value) (size bytes : Nat) (ht : P.underlying t = some (.slice e)) (hi : P.info? e = some i) (hz : i.zero = some z)
    (hsize : i.size = size) (hby : i.bytes = bytes) (hzs : z.cells.size = size) (hsz : 0 < size)
    (v : Value) (n : Nat) (xs : List Value) (hs : a.eval s = v) (hown : w.ownsRow base e size v n xs)
    (ad : Addr) (m c : Nat) (news : List Value) (hx : a.eval x = .slice (some ad) m c) (hl : news.length = m * size) (hnews : ∀ j u, news[j]? = some u → w.cell? (ad.add j) = some u) (h1 : ∀ u ∈ news, u.oneCell' = true)
    (h63 : n + m ≤ maxLen) (hbytes : (n + m) * bytes ≤ 140737488355328) (hbase : base ≤ w.heap.size)
    (h : ∀ v' w', w'.ownsRow base e size v' (n + m) (xs ++ news) → w.grownBy w' v.ownBlock → (v' = .slice none 0 0 ↔ v = .slice none 0 0 ∧ m = 0) → K (a.put o.dst v') w') :
    if Region.wanted o (yielded ops a.tmps) = true then Oper.wp P o a w K Q else E := by
  rw [if_pos (by simp [Region.wanted, hgd])]
  exact wp_append_own w s x t ho base e i z size bytes ht hi hz hsize hby hzs hsz v n xs hs hown ad m c news hx hl hnews h1 h63 hbytes hbase h

end Go.Proofs.YtdgnhfhaaghoaaaGreatDoor

set_option linter.unusedVariables false
namespace Go.Proofs.YtdgnhfhaaghoaaaGreatDoor
open Go.RowKit

theorem TRows.lab {w : World} {B : Nat} {u t : Value} {l : List (List Int)} {ss : List I3} (h : TRows w B u l) (k : w.ownsRow B 103 3 t ss.length (ss.flatMap tri)) :
    OwnLab w (fun b => B ≤ b ∧ b < w.heap.size) (.agg #[u, t]) ⟨l, ss⟩ := by
  obtain ⟨vs, h1, h2, h3⟩ := h
  have hvl : vs.length = l.length := by have := h1.1; omega
  have hrow : ∀ (i : Nat) v, vs[i]? = some v → ∃ xs, l[i]? = some xs ∧ w.ownsRow B 3 1 v xs.length (ints xs) := fun i v a => by
    have hil := (List.getElem?_eq_some_iff.1 a).1
    exact ⟨_, List.getElem?_eq_getElem (by omega), h2 i v _ a (List.getElem?_eq_getElem (by omega))⟩
  refine ⟨u, t, fun b => u.ownBlock = some b ∨ ∃ (i : Nat) (v : Value), vs[i]? = some v ∧ v.ownBlock = some b, fun b => t.ownBlock = some b, rfl, ?_, Own.of_owns k, ?_, fun b hb => k.lt b hb, ?_⟩
  · refine ⟨vs, fun b => u.ownBlock = some b, fun i b => ∃ v : Value, vs[i]? = some v ∧ v.ownBlock = some b, Own.of_owns h1, hvl, fun i v xs a b => (Own.of_owns (h2 i v xs a b)).mono (fun g hg => ⟨v, a, hg⟩), fun b hb => .inl hb, fun i b ⟨v, a, hb⟩ => ?_, fun i j b ⟨v, a, hb⟩ ⟨v', a', hb'⟩ => ?_⟩
    · obtain ⟨xs, _, ho⟩ := hrow i v a
      exact ⟨.inr ⟨i, v, a, hb⟩, owns_apart' ho h1 (by decide) b hb⟩
    · rcases Nat.lt_trichotomy i j with hh | hh | hh
      · exact absurd hb' (h3 i j v v' b hh a a' hb)
      · exact hh
      · exact absurd hb (h3 j i v' v b hh a' a hb')
  · rintro b (hb | ⟨i, v, a, hb⟩)
    · exact h1.lt b hb
    · obtain ⟨xs, _, ho⟩ := hrow i v a
      exact ho.lt b hb
  · rintro b (hb | ⟨i, v, a, hb⟩) hb2
    · exact owns_apart' h1 k (by decide) b hb hb2
    · obtain ⟨xs, _, ho⟩ := hrow i v a
      exact owns_apart' ho k (by decide) b hb hb2

end Go.Proofs.YtdgnhfhaaghoaaaGreatDoor

set_option linter.unusedVariables false
namespace Go.Proofs.YtdgnhfhaaghoaaaGreatDoor
open Go.RowKit

/-- One operation more has come up. -/
def upd (L : Nat → Bool) (i : Nat) : Nat → Bool := fun j => if j = i then true else L j
theorem count_set {l : List Bool} {i : Nat} (h : l[i]? = some false) : (l.set i true).count false + 1 = l.count false := by
  induction l generalizing i with
  | nil => simp at h
  | cons a l ih =>
    cases i with
    | zero =>
      simp at h
      subst h
      simp [List.count_cons]
    | succ i =>
      have := ih (by simpa using h)
      simp only [List.set_cons_succ, List.count_cons]
      omega

/-- A slot's value: the new one if its operation has come up. -/
def bsel {α : Type} (b : Bool) (x y : α) : α := if b then x else y
theorem bsel_t {α : Type} (x y : α) : bsel true x y = x := rfl

section
variable {P : Program} {md : Region.Mode} {ops : Array Oper} {Q : Exit → Act → World → Prop}

theorem wpAny_inv (J : (Nat → Bool) → Act → World → Prop)
    (step : ∀ (L : Nat → Bool) (a : Act) (w : World) (i : Nat) (o : Oper), J L a w → L i = false → ops[i]? = some o → (∀ e ∈ o.after, Region.binds md e = true → L e.on = true) →
      ∀ K' : Act → World → Prop, (∀ a' w', J (upd L i) a' w' → K' a' w') → if Region.wanted o (yielded ops a.tmps) = true then Oper.wp P o a w K' Q else K' (a.put o.dst undef) w)
    (fin : ∀ (L : Nat → Bool) (a : Act) (w : World), J L a w → (∀ i o, ops[i]? = some o → L i = false → ∃ e ∈ o.after, Region.binds md e = true ∧ L e.on = false) → Q .normal a w) :
    ∀ (fuel : Nat) (listed : Array Bool) (a : Act) (w : World), listed.size = ops.size → listed.toList.count false ≤ fuel → J (fun i => listed.getD i false) a w → wpAny P md ops Q fuel listed a w := by
  have hfin : ∀ (listed : Array Bool) (a : Act) (w : World), listed.size = ops.size → J (fun i => listed.getD i false) a w → Region.ready md ops listed = [] → Q .normal a w := fun listed a w hs hJ hr => by
    refine fin _ a w hJ fun i o ho hi => ?_
    have hil : i < listed.size := by rw [hs]; exact (Array.getElem?_eq_some_iff.1 ho).1
    refine Classical.byContradiction fun hn => ?_
    have hm : i ∈ Region.ready md ops listed := mem_ready.2 ⟨by simpa [hil] using hi, o, ho, fun e he hb => by
      cases hx : listed.getD e.on false
      · exact absurd ⟨e, he, hb, hx⟩ hn
      · rfl⟩
    rw [hr] at hm
    cases hm
  intro fuel
  induction fuel with
  | zero =>
    intro listed a w hs hc hJ
    have hr : Region.ready md ops listed = [] := by
      rw [List.eq_nil_iff_forall_not_mem]
      intro i hi
      obtain ⟨h1, o, ho, _⟩ := mem_ready.1 hi
      have hil : i < listed.size := by rw [hs]; exact (Array.getElem?_eq_some_iff.1 ho).1
      have h2 : listed[i] = false := by simpa [hil] using h1
      have : false ∈ listed.toList := by rw [← h2]; simp
      have := List.count_pos_iff.2 this
      omega
    exact ⟨hr, hfin listed a w hs hJ hr⟩
  | succ fuel ih =>
    intro listed a w hs hc hJ
    refine ⟨hfin listed a w hs hJ, fun i hi => ?_⟩
    obtain ⟨h1, o, ho, hd⟩ := mem_ready.1 hi
    have hil : i < listed.size := by rw [hs]; exact (Array.getElem?_eq_some_iff.1 ho).1
    have h2 : listed[i] = false := by simpa [hil] using h1
    refine wpOp_step ho fun K' hK => step _ a w i o hJ (by simpa [hil] using h2) ho hd K' fun a' w' hJ' => hK a' w' (ih _ a' w' (by simpa using hs) ?_ ?_)
    · rw [Array.toList_setIfInBounds]
      have := count_set (l := listed.toList) (i := i) (by rw [Array.getElem?_toList, Array.getElem?_eq_getElem hil, h2])
      omega
    · have e : (fun j => (listed.setIfInBounds i true).getD j false) = upd (fun j => listed.getD j false) i := by
        funext j
        unfold upd
        by_cases hj : j = i
        · subst hj
          simp [hil]
        · rw [if_neg hj]
          simp [Array.getD_eq_getD_getElem?, Array.getElem?_setIfInBounds, Ne.symm hj]
      rw [e]
      exact hJ'

/-- The region as a whole. -/
theorem wp_region_inv {id : Nat} {a : Act} {w : World} (hm : P.follows .mixedOrders = true) (J : (Nat → Bool) → Act → World → Prop) (h0 : J (fun _ => false) a w.drew)
    (step : ∀ (L : Nat → Bool) (a : Act) (w : World) (i : Nat) (o : Oper), J L a w → L i = false → ops[i]? = some o → (∀ e ∈ o.after, Region.binds .any e = true → L e.on = true) →
      ∀ K' : Act → World → Prop, (∀ a' w', J (upd L i) a' w' → K' a' w') → if Region.wanted o (yielded ops a.tmps) = true then Oper.wp P o a w K' Q else K' (a.put o.dst undef) w)
    (fin : ∀ (L : Nat → Bool) (a : Act) (w : World), J L a w → (∀ i o, ops[i]? = some o → L i = false → ∃ e ∈ o.after, Region.binds .any e = true ∧ L e.on = false) → Q .normal a w) :
    (Code.region id ops true).wp P Q a w := by
  refine wp_region_any hm (wpAny_inv J step fin ops.size _ a _ (by simp) ?_ ?_)
  · have h : (Array.replicate ops.size false).toList.count false ≤ (Array.replicate ops.size false).toList.length := List.count_le_length
    rw [Array.length_toList, Array.size_replicate] at h
    exact h
  · have e : (fun i => (Array.replicate ops.size false).getD i false) = fun _ => false := by
      funext i
      simp [Array.getD_eq_getD_getElem?, Array.getElem?_replicate]
      split <;> rfl
    rw [e]
    exact h0

end

end Go.Proofs.YtdgnhfhaaghoaaaGreatDoor
