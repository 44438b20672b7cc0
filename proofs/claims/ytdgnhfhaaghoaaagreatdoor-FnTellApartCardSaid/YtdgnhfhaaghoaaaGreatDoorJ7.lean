/- Tables of rows that grow by appending: l7Table walked. -/
import Derived.Test.YtdgnhfhaaghoaaaGreatDoorProg
import Derived.Test.YtdgnhfhaaghoaaaGreatDoorJ6
import Derived.Deep.RegionLaw
set_option linter.unusedSimpArgs false
set_option linter.unusedVariables false
namespace Go.Proofs.YtdgnhfhaaghoaaaGreatDoor
open Go.RowKit

theorem owns_apart' {w : World} {B1 B2 : Nat} {e1 e2 : TypeId} {s1 s2 : Nat} {v1 v2 : Value} {n1 n2 : Nat} {xs1 xs2 : List Value} (h1 : w.ownsRow B1 e1 s1 v1 n1 xs1) (h2 : w.ownsRow B2 e2 s2 v2 n2 xs2) (he : e1 ≠ e2) (g : Nat) (hg : v1.ownBlock = some g) : v2.ownBlock ≠ some g := by
  intro hg2
  rcases h1.2 with ⟨rfl, _⟩ | ⟨g1, _, _, rfl, _, a1, _⟩
  · simp [Value.ownBlock] at hg
  · rcases h2.2 with ⟨rfl, _⟩ | ⟨g2, _, _, rfl, _, a2, _⟩
    · simp [Value.ownBlock] at hg2
    · simp only [Value.ownBlock, Option.some.injEq] at hg hg2
      subst hg
      subst hg2
      rw [a1] at a2
      injection a2 with a2
      injection a2 with _ a2
      exact he a2
theorem owns_grown' {w w' : World} {B : Nat} {e : TypeId} {s : Nat} {v : Value} {n : Nat} {xs : List Value} {row : Option Nat} (h : w.ownsRow B e s v n xs) (hg : w.grownBy w' row) (hne : ∀ g, v.ownBlock = some g → row ≠ some g) : w'.ownsRow B e s v n xs := by
  refine ⟨h.1, ?_⟩
  rcases h.2 with hn | ⟨g, cap, cur, rfl, hbg, hgg, rest⟩
  · exact .inl hn
  · have hlt := (Array.getElem?_eq_some_iff.1 hgg).1
    exact .inr ⟨g, cap, cur, rfl, hbg, by rw [hg.block g hlt (hne g rfl).symm]; exact hgg, rest⟩

/-- A table: a row of slices, each a row of its own. -/
def TRows (w : World) (B : Nat) (u : Value) (xss : List (List Int)) : Prop :=
  ∃ vs : List Value, w.ownsRow B 30 1 u xss.length vs ∧ (∀ (i : Nat) v xs, vs[i]? = some v → xss[i]? = some xs → w.ownsRow B 3 1 v xs.length (ints xs)) ∧
    (∀ (i j : Nat) v v' b, i < j → vs[i]? = some v → vs[j]? = some v' → v.ownBlock = some b → v'.ownBlock ≠ some b)

/-- One row more. -/
theorem TRows.push {w w1 w2 : World} {B : Nat} {u u2 r : Value} {l : List (List Int)} {x : List Int} {vs : List Value} {o : Obj}
    (h1 : w.ownsRow B 30 1 u l.length vs) (h2 : ∀ (i : Nat) v xs, vs[i]? = some v → l[i]? = some xs → w.ownsRow B 3 1 v xs.length (ints xs))
    (h3 : ∀ (i j : Nat) v v' b, i < j → vs[i]? = some v → vs[j]? = some v' → v.ownBlock = some b → v'.ownBlock ≠ some b)
    (hB : B ≤ w.heap.size) (hr : w1.ownsRow w.heap.size 3 1 r x.length (ints x)) (hb : Below w.heap.size w w1)
    (ho : w2.ownsRow B 30 1 u2 (l.length + 1) (vs ++ [r])) (hg : (w1.alloc o).grownBy w2 u.ownBlock) : TRows w2 B u2 (l ++ [x]) := by
  have hvl : vs.length = l.length := by have := h1.1; omega
  have hu1 : (w1.alloc o).ownsRow B 30 1 u l.length vs := (owns_below h1 hb (Nat.le_refl _)).alloc _
  refine ⟨vs ++ [r], by rw [List.length_append]; exact ho, fun i v xs hv hx => ?_, fun i j v v' b hij hv hv' hvb => ?_⟩
  · rcases Nat.lt_trichotomy i vs.length with hi | hi | hi
    · rw [List.getElem?_append_left hi] at hv
      rw [List.getElem?_append_left (by omega)] at hx
      have ha : (w1.alloc o).ownsRow B 3 1 v xs.length (ints xs) := (owns_below (h2 i v xs hv hx) hb (Nat.le_refl _)).alloc _
      exact owns_grown' ha hg (fun g hgv => owns_apart' ha hu1 (by decide) g hgv)
    · subst hi
      rw [List.getElem?_append_right (Nat.le_refl _), Nat.sub_self] at hv
      rw [hvl, List.getElem?_append_right (Nat.le_refl _), Nat.sub_self] at hx
      simp at hv hx
      subst hv
      subst hx
      have ha : (w1.alloc o).ownsRow B 3 1 r x.length (ints x) := (owns_mono hr hB).alloc _
      exact owns_grown' ha hg (fun g hgv => owns_apart' ha hu1 (by decide) g hgv)
    · rw [List.getElem?_eq_none (by simp; omega)] at hv
      cases hv
  · have hj : j ≤ vs.length := by
      have := (List.getElem?_eq_some_iff.1 hv').1
      simp at this
      omega
    rw [List.getElem?_append_left (by omega)] at hv
    rcases Nat.lt_or_eq_of_le hj with hj | hj
    · rw [List.getElem?_append_left hj] at hv'
      exact h3 i j v v' b hij hv hv' hvb
    · subst hj
      rw [List.getElem?_append_right (Nat.le_refl _), Nat.sub_self] at hv'
      simp at hv'
      subst hv'
      have hil : i < l.length := by omega
      have a1 := ((h2 i v _ hv (List.getElem?_eq_getElem hil)).lt b hvb).2
      intro e
      have a2 := (hr.lt b e).1
      omega

theorem info_cs : (Tryz.prog.info? 30).map (fun i => (i.zero, i.size, i.bytes)) = some (some (.slice none 0 0), 1, 24) := by kernel_rfl

set_option maxRecDepth 100000 in
set_option maxHeartbeats 4000000 in
theorem l7Table_any (v : Value) (xss : List (List Int)) (w : World) (hv : RSS w v xss) (hn : xss.length ≤ 16777216) (hs : Small xss) :
    Calls Tryz.prog 159 #[v] w fun e w' => ∃ u, e = .returned u ∧ TRows w' w.heap.size u xss ∧ Below w.heap.size w w' := by
  obtain ⟨i0, hi, hz0, hz1, hz2⟩ := info_parts info_cs
  have HV := Lib.hid (show ∀ W, Below w.heap.size w W → RSS W v xss from fun W hb => hv.below hb)
  obtain ⟨A, c, us, rfl, _, hul, hA, hui⟩ := hv
  clear hA hui
  go_enter Tryz.func159, Tryz.ntmps159
  go_wp2_with fail
  go_loopw [3, 4] (fun u i wr => ∃ k : Nat, k ≤ xss.length ∧ i = .int .i64 k ∧ TRows wr w.heap.size u (xss.take k) ∧ Below w.heap.size w wr)
    (fun _ i _ => xss.length - (intOf i).toNat)
  case atStart => exact ⟨0, Nat.zero_le _, rfl, ⟨[], by rw [List.take_zero]; exact World.ownsRow_made w #[] 0 (Nat.le_refl _) (Nat.zero_le _) rfl, fun i v xs h => by simp at h, fun i j v v' b _ h => by simp at h⟩, (Below.refl _ _).alloc (Nat.le_refl _) _⟩
  case round =>
    obtain ⟨k, hk, rfl, htab, hbel⟩ := hrel
    by_cases hlt : k < xss.length
    · obtain ⟨vs, t1, t2, t3⟩ := htab
      obtain ⟨AU, cU, rfl, t1⟩ := owns_form t1
      obtain ⟨A', c', vs', e, _, hvl, hcB, hrow⟩ := HV.out wr hbel
      cases e
      obtain ⟨b, o, rfl, hcb⟩ := hcB.at_ (k := k) (by omega)
      have hck := hcb k _ (List.getElem?_eq_getElem (by omega))
      obtain ⟨A3, c3, e3, hm3, hc3⟩ := hrow k _ _ (List.getElem?_eq_getElem (by omega)) (List.getElem?_eq_getElem hlt)
      rw [e3] at hck
      have hsx := hs _ (List.getElem_mem hlt)
      have htk : xss.take (k + 1) = xss.take k ++ [xss[k]] := List.take_succ_eq_append_getElem hlt
      have hlk : (xss.take k).length = k := by rw [List.length_take]; omega
      rw [hlk] at t1
      have H := Lib.hid (l1Own_any A3 c3 xss[k] wr hsx hc3)
      have HTK := Lib.hid htk
      have T1 := Lib.hid t1
      have T2 := Lib.hid t2
      have T3 := Lib.hid t3
      have HB := Lib.hid hbel
      have hwr := hbel.size
      clear hcb hcB hrow e3 hc3 htk t1 t2 t3 hbel
      generalize xss[k] = x at *
      go_wp2_with fail
      refine H.out.mono ?_
      rintro e w1 ⟨r, rfl, hr, hb1⟩
      obtain ⟨AR, cR, rfl, hr⟩ := owns_form hr
      have hs1 := hb1.size
      have hown1 := (owns_below T1.out hb1 (Nat.le_refl _)).alloc (.cells #[.slice AR x.length cR] 30)
      have HO1 := Lib.hid hown1
      have HR := Lib.hid hr
      have HB1 := Lib.hid hb1
      clear hown1 hr hb1
      go_wp2_with (at_builtin; refine wpList_append_own _ rfl _ _ 24 rfl w.heap.size 30 i0 (.slice none 0 0) 1 24 Tryz.underlying24 hi hz0 hz1 hz2 rfl (by decide) _ _ _ rfl HO1.out ⟨w1.heap.size, 0, none⟩ 1 1 [.slice AR x.length cR] rfl rfl ?c1 ?c2 ?c3 ?c4 ?c5 ?_)
      case c1 => intro j u hj; match j, hj with | 0, hj => (simp at hj; subst hj; simp [Addr.add])
      case c2 => intro u hu; simp at hu; subst hu; rfl
      case c3 => unfold maxLen; omega
      case c4 => omega
      case c5 => simp; omega
      intro v2 w2 hown2 hgrow2 _
      have hp := TRows.push (l := xss.take k) (by rw [hlk]; exact T1.out) T2.out T3.out hwr HR.out HB1.out (by rw [hlk]; exact hown2) hgrow2
      rw [← HTK.out] at hp
      have HP := Lib.hid hp
      have HG := Lib.hid (((HB.out.trans (HB1.out.mono hwr)).alloc (Nat.le_trans hwr hs1) _).grown hgrow2 (by simp; omega) (fun q hq => (HO1.out.lt q hq).1))
      clear hown2 hgrow2 hp
      go_wp2
      go_roundw
      case rel => exact ⟨k + 1, by omega, by go_num, HP.out, HG.out⟩
      case measure => simp [intOf]; omega
    · obtain rfl : k = xss.length := by omega
      rw [List.take_length] at htab
      have HP := Lib.hid htab
      have hT := htab
      obtain ⟨vs, t1, _⟩ := hT
      obtain ⟨AU, cU, rfl, _⟩ := owns_form t1
      clear htab t1
      go_wp2_with fail
      go_ret
      exact ⟨_, rfl, HP.out, hbel⟩

/-- Two tables, one behind the other. -/
theorem TRows.join {w w2 : World} {B B2 : Nat} {u1 u : Value} {l1 l2 : List (List Int)} {vs1 vs2 : List Value}
    (h1 : w.ownsRow B 30 1 u1 l1.length vs1) (h2 : ∀ (i : Nat) v xs, vs1[i]? = some v → l1[i]? = some xs → w.ownsRow B 3 1 v xs.length (ints xs))
    (h3 : ∀ (i j : Nat) v v' b, i < j → vs1[i]? = some v → vs1[j]? = some v' → v.ownBlock = some b → v'.ownBlock ≠ some b)
    (hlow : ∀ (i : Nat) v b, vs1[i]? = some v → v.ownBlock = some b → b < B2) (hl2 : vs2.length = l2.length)
    (k2 : ∀ (i : Nat) v xs, vs2[i]? = some v → l2[i]? = some xs → w.ownsRow B2 3 1 v xs.length (ints xs))
    (k3 : ∀ (i j : Nat) v v' b, i < j → vs2[i]? = some v → vs2[j]? = some v' → v.ownBlock = some b → v'.ownBlock ≠ some b)
    (hB : B ≤ B2) (ho : w2.ownsRow B 30 1 u (l1.length + l2.length) (vs1 ++ vs2)) (hg : w.grownBy w2 u1.ownBlock) : TRows w2 B u (l1 ++ l2) := by
  have hvl : vs1.length = l1.length := by have := h1.1; omega
  refine ⟨vs1 ++ vs2, by rw [List.length_append]; exact ho, fun i v xs hv hx => ?_, fun i j v v' b hij hv hv' hvb => ?_⟩
  · by_cases hi : i < vs1.length
    · rw [List.getElem?_append_left hi] at hv
      rw [List.getElem?_append_left (by omega)] at hx
      have ha := h2 i v xs hv hx
      exact owns_grown' ha hg (fun g hgv => owns_apart' ha h1 (by decide) g hgv)
    · rw [List.getElem?_append_right (by omega)] at hv
      rw [List.getElem?_append_right (by omega), ← hvl] at hx
      have ha := k2 _ v xs hv hx
      exact owns_mono (owns_grown' ha hg (fun g hgv => owns_apart' ha h1 (by decide) g hgv)) hB
  · by_cases hj : j < vs1.length
    · rw [List.getElem?_append_left hj] at hv'
      rw [List.getElem?_append_left (by omega)] at hv
      exact h3 i j v v' b hij hv hv' hvb
    · rw [List.getElem?_append_right (by omega)] at hv'
      by_cases hi : i < vs1.length
      · rw [List.getElem?_append_left hi] at hv
        have a1 := hlow i v b hv hvb
        intro e
        have hjl := (List.getElem?_eq_some_iff.1 hv').1
        have a2 := ((k2 _ v' _ hv' (List.getElem?_eq_getElem (by omega))).lt b e).1
        omega
      · rw [List.getElem?_append_right (by omega)] at hv
        exact k3 _ _ v v' b (by omega) hv hv' hvb

theorem TRows.rss {w : World} {B : Nat} {u : Value} {l : List (List Int)} (h : TRows w B u l) (hn : l.length ≤ 16777216) (hs : Small l) : RSS w u l := by
  obtain ⟨vs, h1, h2, _⟩ := h
  have hvl : vs.length = l.length := by have := h1.1; omega
  obtain ⟨A, c, rfl, h1⟩ := owns_form h1
  refine ⟨A, c, vs, rfl, by unfold maxLen; omega, hvl, Cells.of_owns h1, fun i v xs hv hx => ?_⟩
  have ho := h2 i v xs hv hx
  obtain ⟨A', c', rfl, ho⟩ := owns_form ho
  exact ⟨A', c', rfl, le_maxLen (hs xs (List.mem_of_getElem? hx)), Cells.of_owns ho⟩

theorem TRows.below {w w' : World} {B : Nat} {u : Value} {l : List (List Int)} {B2 : Nat} (h : TRows w B u l) (hb : Below B2 w w') (hB : w.heap.size ≤ B2) : TRows w' B u l := by
  obtain ⟨vs, h1, h2, h3⟩ := h
  exact ⟨vs, owns_below h1 hb hB, fun i v xs a b => owns_below (h2 i v xs a b) hb hB, h3⟩

theorem step_append_own {P : Program} {ops : Array Oper} {o : Oper} {a : Act} {w : World} {K : Act → World → Prop} {Q : Exit → Act → World → Prop} {E : Prop} (hgd : o.guard = none) (s x : Operand) (t : TypeId)
    (ho : o.op = .call { callee := .builtin .append, args := #[s, x], argTypes := #[t, t] })
    (base : Nat) (e : TypeId) (i : TypeInfo) (z : Value) (size bytes : Nat) (ht : P.underlying t = some (.slice e)) (hi : P.info? e = some i) (hz : i.zero = some z)
    (hsize : i.size = size) (hby : i.bytes = bytes) (hzs : z.cells.size = size) (hsz : 0 < size)
    (v : Value) (n : Nat) (xs : List Value) (hs : a.eval s = v) (hown : w.ownsRow base e size v n xs)
    (ad : Addr) (m c : Nat) (news : List Value) (hx : a.eval x = .slice (some ad) m c) (hl : news.length = m * size) (hnews : ∀ j u, news[j]? = some u → w.cell? (ad.add j) = some u) (h1 : ∀ u ∈ news, u.oneCell' = true)
    (h63 : n + m ≤ maxLen) (hbytes : (n + m) * bytes ≤ 140737488355328) (hbase : base ≤ w.heap.size)
    (h : ∀ v' w', w'.ownsRow base e size v' (n + m) (xs ++ news) → w.grownBy w' v.ownBlock → (v' = .slice none 0 0 ↔ v = .slice none 0 0 ∧ m = 0) → K (a.put o.dst v') w') :
    if Region.wanted o (yielded ops a.tmps) = true then Oper.wp P o a w K Q else E := by
  rw [if_pos (by simp [Region.wanted, hgd])]
  exact wp_append_own w s x t ho base e i z size bytes ht hi hz hsize hby hzs hsz v n xs hs hown ad m c news hx hl hnews h1 h63 hbytes hbase h

end Go.Proofs.YtdgnhfhaaghoaaaGreatDoor
