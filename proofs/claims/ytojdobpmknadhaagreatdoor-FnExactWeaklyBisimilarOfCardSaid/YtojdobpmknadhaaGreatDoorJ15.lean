/- Tables of rows that grow by appending: l7Table walked. A cell outside of what has turned. No program is in sight. The ends of a state's steps with an action: the reference walked. -/
import Derived.Test.YtojdobpmknadhaaGreatDoorProg
import Derived.Test.YtojdobpmknadhaaGreatDoorJ14
import Derived.Deep.RegionLaw
import Derived.Test.YtojdobpmknadhaaGreatDoorJ3
import Derived.Test.YtojdobpmknadhaaGreatDoorJ8
set_option linter.unusedVariables false
namespace Go.Proofs.YtojdobpmknadhaaGreatDoor
open Go.RowKit

theorem owns_apart' {w : World} {B1 B2 : Nat} {e1 e2 : TypeId} {s1 s2 : Nat} {v1 v2 : Value} {n1 n2 : Nat} {xs1 xs2 : List Value} (h1 : w.ownsRow B1 e1 s1 v1 n1 xs1) (h2 : w.ownsRow B2 e2 s2 v2 n2 xs2) (he : e1 ≠ e2) (g : Nat) (hg : v1.ownBlock = some g) : v2.ownBlock ≠ some g := by
  intro hg2
  rcases h1.2 with ⟨rfl, _⟩ | ⟨g1, _, _, rfl, _, a1, _⟩
  · simp [Value.ownBlock] at hg
  · rcases h2.2 with ⟨rfl, _⟩ | ⟨g2, _, _, rfl, _, a2, _⟩
    · simp [Value.ownBlock] at hg2
    · simp only [Value.ownBlock, Option.some.injEq] at hg hg2
      subst hg
      subst hg2
      rw [a1] at a2
      injection a2 with a2
      injection a2 with _ a2
      exact he a2
theorem owns_grown' {w w' : World} {B : Nat} {e : TypeId} {s : Nat} {v : Value} {n : Nat} {xs : List Value} {row : Option Nat} (h : w.ownsRow B e s v n xs) (hg : w.grownBy w' row) (hne : ∀ g, v.ownBlock = some g → row ≠ some g) : w'.ownsRow B e s v n xs := by
  refine ⟨h.1, ?_⟩
  rcases h.2 with hn | ⟨g, cap, cur, rfl, hbg, hgg, rest⟩
  · exact .inl hn
  · have hlt := (Array.getElem?_eq_some_iff.1 hgg).1
    exact .inr ⟨g, cap, cur, rfl, hbg, by rw [hg.block g hlt (hne g rfl).symm]; exact hgg, rest⟩

/-- A table: a row of slices, each a row of its own. -/
def TRows (w : World) (B : Nat) (u : Value) (xss : List (List Int)) : Prop :=
  ∃ vs : List Value, w.ownsRow B 27 1 u xss.length vs ∧ (∀ (i : Nat) v xs, vs[i]? = some v → xss[i]? = some xs → w.ownsRow B 3 1 v xs.length (ints xs)) ∧
    (∀ (i j : Nat) v v' b, i < j → vs[i]? = some v → vs[j]? = some v' → v.ownBlock = some b → v'.ownBlock ≠ some b)

/-- One row more. -/
theorem TRows.push {w w1 w2 : World} {B : Nat} {u u2 r : Value} {l : List (List Int)} {x : List Int} {vs : List Value} {o : Obj}
    (h1 : w.ownsRow B 27 1 u l.length vs) (h2 : ∀ (i : Nat) v xs, vs[i]? = some v → l[i]? = some xs → w.ownsRow B 3 1 v xs.length (ints xs))
    (h3 : ∀ (i j : Nat) v v' b, i < j → vs[i]? = some v → vs[j]? = some v' → v.ownBlock = some b → v'.ownBlock ≠ some b)
    (hB : B ≤ w.heap.size) (hr : w1.ownsRow w.heap.size 3 1 r x.length (ints x)) (hb : Below w.heap.size w w1)
    (ho : w2.ownsRow B 27 1 u2 (l.length + 1) (vs ++ [r])) (hg : (w1.alloc o).grownBy w2 u.ownBlock) : TRows w2 B u2 (l ++ [x]) := by
  have hvl : vs.length = l.length := by have := h1.1; omega
  have hu1 : (w1.alloc o).ownsRow B 27 1 u l.length vs := (owns_below h1 hb (Nat.le_refl _)).alloc _
  refine ⟨vs ++ [r], by rw [List.length_append]; exact ho, fun i v xs hv hx => ?_, fun i j v v' b hij hv hv' hvb => ?_⟩
  · rcases Nat.lt_trichotomy i vs.length with hi | hi | hi
    · rw [List.getElem?_append_left hi] at hv
      rw [List.getElem?_append_left (by omega)] at hx
      have ha : (w1.alloc o).ownsRow B 3 1 v xs.length (ints xs) := (owns_below (h2 i v xs hv hx) hb (Nat.le_refl _)).alloc _
      exact owns_grown' ha hg (fun g hgv => owns_apart' ha hu1 (by decide) g hgv)
    · subst hi
      rw [List.getElem?_append_right (Nat.le_refl _), Nat.sub_self] at hv
      rw [hvl, List.getElem?_append_right (Nat.le_refl _), Nat.sub_self] at hx
      simp at hv hx
      subst hv
      subst hx
      have ha : (w1.alloc o).ownsRow B 3 1 r x.length (ints x) := (owns_mono hr hB).alloc _
      exact owns_grown' ha hg (fun g hgv => owns_apart' ha hu1 (by decide) g hgv)
    · rw [List.getElem?_eq_none (by simp; omega)] at hv
      cases hv
  · have hj : j ≤ vs.length := by
      have := (List.getElem?_eq_some_iff.1 hv').1
      simp at this
      omega
    rw [List.getElem?_append_left (by omega)] at hv
    rcases Nat.lt_or_eq_of_le hj with hj | hj
    · rw [List.getElem?_append_left hj] at hv'
      exact h3 i j v v' b hij hv hv' hvb
    · subst hj
      rw [List.getElem?_append_right (Nat.le_refl _), Nat.sub_self] at hv'
      simp at hv'
      subst hv'
      have hil : i < l.length := by omega
      have a1 := ((h2 i v _ hv (List.getElem?_eq_getElem hil)).lt b hvb).2
      intro e
      have a2 := (hr.lt b e).1
      omega

theorem info_cs : (Tryz.prog.info? 27).map (fun i => (i.zero, i.size, i.bytes)) = some (some (.slice none 0 0), 1, 24) := by kernel_rfl

/-- Two tables, one behind the other. -/
theorem TRows.join {w w2 : World} {B B2 : Nat} {u1 u : Value} {l1 l2 : List (List Int)} {vs1 vs2 : List Value}
    (h1 : w.ownsRow B 27 1 u1 l1.length vs1) (h2 : ∀ (i : Nat) v xs, vs1[i]? = some v → l1[i]? = some xs → w.ownsRow B 3 1 v xs.length (ints xs))
    (h3 : ∀ (i j : Nat) v v' b, i < j → vs1[i]? = some v → vs1[j]? = some v' → v.ownBlock = some b → v'.ownBlock ≠ some b)
    (hlow : ∀ (i : Nat) v b, vs1[i]? = some v → v.ownBlock = some b → b < B2) (hl2 : vs2.length = l2.length)
    (k2 : ∀ (i : Nat) v xs, vs2[i]? = some v → l2[i]? = some xs → w.ownsRow B2 3 1 v xs.length (ints xs))
    (k3 : ∀ (i j : Nat) v v' b, i < j → vs2[i]? = some v → vs2[j]? = some v' → v.ownBlock = some b → v'.ownBlock ≠ some b)
    (hB : B ≤ B2) (ho : w2.ownsRow B 27 1 u (l1.length + l2.length) (vs1 ++ vs2)) (hg : w.grownBy w2 u1.ownBlock) : TRows w2 B u (l1 ++ l2) := by
  have hvl : vs1.length = l1.length := by have := h1.1; omega
  refine ⟨vs1 ++ vs2, by rw [List.length_append]; exact ho, fun i v xs hv hx => ?_, fun i j v v' b hij hv hv' hvb => ?_⟩
  · by_cases hi : i < vs1.length
    · rw [List.getElem?_append_left hi] at hv
      rw [List.getElem?_append_left (by omega)] at hx
      have ha := h2 i v xs hv hx
      exact owns_grown' ha hg (fun g hgv => owns_apart' ha h1 (by decide) g hgv)
    · rw [List.getElem?_append_right (by omega)] at hv
      rw [List.getElem?_append_right (by omega), ← hvl] at hx
      have ha := k2 _ v xs hv hx
      exact owns_mono (owns_grown' ha hg (fun g hgv => owns_apart' ha h1 (by decide) g hgv)) hB
  · by_cases hj : j < vs1.length
    · rw [List.getElem?_append_left hj] at hv'
      rw [List.getElem?_append_left (by omega)] at hv
      exact h3 i j v v' b hij hv hv' hvb
    · rw [List.getElem?_append_right (by omega)] at hv'
      by_cases hi : i < vs1.length
      · rw [List.getElem?_append_left hi] at hv
        have a1 := hlow i v b hv hvb
        intro e
        have hjl := (List.getElem?_eq_some_iff.1 hv').1
        have a2 := ((k2 _ v' _ hv' (List.getElem?_eq_getElem (by omega))).lt b e).1
        omega
      · rw [List.getElem?_append_right (by omega)] at hv
        exact k3 _ _ v v' b (by omega) hv hv' hvb

theorem TRows.rss {w : World} {B : Nat} {u : Value} {l : List (List Int)} (h : TRows w B u l) (hn : l.length ≤ 16777216) (hs : Small l) : RSS w u l := by
  obtain ⟨vs, h1, h2, _⟩ := h
  have hvl : vs.length = l.length := by have := h1.1; omega
  obtain ⟨A, c, rfl, h1⟩ := owns_form h1
  refine ⟨A, c, vs, rfl, by unfold maxLen; omega, hvl, Cells.of_owns h1, fun i v xs hv hx => ?_⟩
  have ho := h2 i v xs hv hx
  obtain ⟨A', c', rfl, ho⟩ := owns_form ho
  exact ⟨A', c', rfl, le_maxLen (hs xs (List.mem_of_getElem? hx)), Cells.of_owns ho⟩

theorem TRows.below {w w' : World} {B : Nat} {u : Value} {l : List (List Int)} {B2 : Nat} (h : TRows w B u l) (hb : Below B2 w w') (hB : w.heap.size ≤ B2) : TRows w' B u l := by
  obtain ⟨vs, h1, h2, h3⟩ := h
  exact ⟨vs, owns_below h1 hb hB, fun i v xs a b => owns_below (h2 i v xs a b) hb hB, h3⟩

theorem TRows.oss {w : World} {B : Nat} {u : Value} {l : List (List Int)} (h : TRows w B u l) : OwnSS w (fun b => B ≤ b ∧ b < w.heap.size) u l := by
  obtain ⟨vs, h1, h2, h3⟩ := h
  have hvl : vs.length = l.length := by have := h1.1; omega
  refine ⟨vs, fun b => u.ownBlock = some b, fun i b => ∃ v, vs[i]? = some v ∧ v.ownBlock = some b, Own.of_owns h1, hvl, fun i v xs a b => (Own.of_owns (h2 i v xs a b)).mono (fun g hg => ⟨v, a, hg⟩), fun b hb => h1.lt b hb, fun i b ⟨v, a, hb⟩ => ?_, fun i j b ⟨v, a, hb⟩ ⟨v', a', hb'⟩ => ?_⟩
  · have hil := (List.getElem?_eq_some_iff.1 a).1
    have ho := h2 i v _ a (List.getElem?_eq_getElem (by omega))
    exact ⟨ho.lt b hb, owns_apart' ho h1 (by decide) b hb⟩
  · rcases Nat.lt_trichotomy i j with hh | hh | hh
    · exact absurd hb' (h3 i j v v' b hh a a' hb)
    · exact hh
    · exact absurd hb (h3 j i v' v b hh a' a hb')

theorem step_append_own {P : Program} {ops : Array Oper} {o : Oper} {a : Act} {w : World} {K : Act → World → Prop} {Q : Exit → Act → World → Prop} {E : Prop} (hgd : o.guard = none) (s x : Operand) (t : TypeId)
    (ho : o.op = .call { callee := .builtin .append, args := #[s, x], argTypes := #[t, t] })
    (base : Nat) (e : TypeId) (i : TypeInfo) (z : Value) (size bytes : Nat) (ht : P.underlying t = some (.slice e)) (hi : P.info? e = some i) (hz : i.zero = some z)
    (hsize : i.size = size) (hby : i.bytes = bytes) (hzs : z.cells.size = size) (hsz : 0 < size)
    (v : Value) (n : Nat) (xs : List Value) (hs : a.eval s = v) (hown : w.ownsRow base e size v n xs)
    (ad : Addr) (m c : Nat) (news : List Value) (hx : a.eval x = .slice (some ad) m c) (hl : news.length = m * size) (hnews : ∀ j u, news[j]? = some u → w.cell? (ad.add j) = some u) (h1 : ∀ u ∈ news, u.oneCell' = true)
    (h63 : n + m ≤ maxLen) (hbytes : (n + m) * bytes ≤ 140737488355328) (hbase : base ≤ w.heap.size)
    (h : ∀ v' w', w'.ownsRow base e size v' (n + m) (xs ++ news) → w.grownBy w' v.ownBlock → (v' = .slice none 0 0 ↔ v = .slice none 0 0 ∧ m = 0) → K (a.put o.dst v') w') :
    if Region.wanted o (yielded ops a.tmps) = true then Oper.wp P o a w K Q else E := by
  rw [if_pos (by simp [Region.wanted, hgd])]
  exact wp_append_own w s x t ho base e i z size bytes ht hi hz hsize hby hzs hsz v n xs hs hown ad m c news hx hl hnews h1 h63 hbytes hbase h

end Go.Proofs.YtojdobpmknadhaaGreatDoor

set_option linter.unusedVariables false
namespace Go.Proofs.YtojdobpmknadhaaGreatDoor
open Go.RowKit

theorem kept_cell {S : Nat → Prop} {w w' : World} {p : Addr} {u : Value} (hk : Kept S w w') (h : w.cell? p = some u) (hn : ¬ S p.block) : w'.cell? p = some u :=
  (World.cell?_of_block (hk.block _ (lt_of_cell h) hn)).trans h

theorem new_cell1 (W : World) (v : Value) (t : TypeId) {n : Nat} (hs : W.heap.size = n) : ∀ j u, [v][j]? = some u → (W.alloc (.cells #[v] t)).cell? ((⟨n, 0, none⟩ : Addr).add j) = some u := by
  subst hs
  intro j u hj
  match j, hj with
  | 0, hj =>
    simp at hj
    subst hj
    exact cell_of_row _ _ _ _ _ _ (heap_alloc_new _ _)

end Go.Proofs.YtojdobpmknadhaaGreatDoor

set_option linter.unusedVariables false
namespace Go.Proofs.YtojdobpmknadhaaGreatDoor
open Go.RowKit

set_option maxRecDepth 100000 in
set_option maxHeartbeats 4000000 in
theorem l11Next_any (v : Value) (l : Lab) (p q : Int) (w : World) (hs : SmallLab l) (hv : RLab w v l) :
    Calls Tryz.prog 56 #[v, .int .i64 p, .int .i64 q] w fun e w' => ∃ r, e = .returned r ∧ w'.ownsRow w.heap.size 3 1 r (nextA l.steps p q).length (ints (nextA l.steps p q)) ∧ Below w.heap.size w w' := by
  obtain ⟨i0, hi, hz0, hz1, hz2⟩ := info_parts info_ci
  obtain ⟨sv, tv, rfl, hsv, htv⟩ := hv
  have hn := hs.2.1
  obtain ⟨A, c, vs, rfl, _, _, _, _⟩ := hsv
  have htv' := htv
  obtain ⟨B, d, rfl, _, _⟩ := htv
  have HV := Lib.hid (show ∀ W, Below w.heap.size w W → RA3 W (.slice B l.steps.length d) l.steps from fun W hb => htv'.below hb)
  clear htv' hs
  have hb0 : Below w.heap.size w (w.alloc (.cells #[.slice A l.shows.length c, .slice B l.steps.length d] 30)) := (Below.refl _ _).alloc (Nat.le_refl _) _
  have hbx := (heap_alloc_old (w.alloc (.cells #[.slice A l.shows.length c, .slice B l.steps.length d] 30)) (.cells #[] 3) (by simp)).trans (heap_alloc_new w (.cells #[.slice A l.shows.length c, .slice B l.steps.length d] 30))
  have HBX := Lib.hid hbx
  have hown0 := World.ownsRow_made (e := 3) (size := 1) (w.alloc (.cells #[.slice A l.shows.length c, .slice B l.steps.length d] 30)) #[] 0 (Nat.le_refl _) (Nat.zero_le _) rfl
  rw [World.size_alloc] at hown0
  have HOWN := Lib.hid hown0
  have HB0 := Lib.hid (hb0.alloc hb0.size (.cells #[] 3))
  clear hbx hown0 hb0
  go_enter Tryz.func56, Tryz.ntmps56
  go_wp2_with fail
  go_loopw [7, 8] (fun u i wr => ∃ k : Nat, k ≤ l.steps.length ∧ i = .int .i64 k ∧ wr.ownsRow (w.heap.size + 1) 3 1 u (nextA (l.steps.take k) p q).length (ints (nextA (l.steps.take k) p q)) ∧ Below w.heap.size w wr ∧ wr.heap[w.heap.size]? = some (.cells #[.slice A l.shows.length c, .slice B l.steps.length d] 30))
    (fun _ i _ => l.steps.length - (intOf i).toNat)
  case atStart => exact ⟨0, Nat.zero_le _, rfl, HOWN.out, HB0.out, HBX.out⟩
  case round =>
    clear HOWN HB0 HBX
    obtain ⟨k, hk, rfl, hown, hbel, hbx⟩ := hrel
    obtain ⟨AO, cO, rfl, hown⟩ := owns_form hown
    have hsz := hbel.size
    have hlt0 := (Array.getElem?_eq_some_iff.1 hbx).1
    have x1 : wr.cell? ⟨w.heap.size, 1, none⟩ = some (.slice B l.steps.length d) := cell_of_row _ _ _ _ _ _ hbx
    by_cases hlt : k < l.steps.length
    · obtain ⟨b, o, c', e, h0, h1, h2⟩ := (HV.out wr hbel).at_ (List.getElem?_eq_getElem hlt)
      cases e
      have hnx := nextA_take p q hlt
      have hln := nextA_len l.steps p q k
      have HO := Lib.hid hown
      have HBE := Lib.hid hbel
      generalize l.steps[k] = s at *
      generalize nextA (l.steps.take k) p q = lk at *
      have b0 : (0 : Int) ≤ (k : Int) := by omega
      have b1 : (k : Int) < (l.steps.length : Int) := by omega
      have hA : Below wr.heap.size wr (wr.alloc (.cells #[.int .i64 s.1, .int .i64 s.2.1, .int .i64 s.2.2] 60)) := (Below.refl _ _).alloc (Nat.le_refl _) _
      have hbA := hbel.trans (hA.mono hbel.size)
      have HOA := Lib.hid (hown.alloc (.cells #[.int .i64 s.1, .int .i64 s.2.1, .int .i64 s.2.2] 60))
      have HBA := Lib.hid hbA
      have HBXA := Lib.hid ((heap_alloc_old wr (.cells #[.int .i64 s.1, .int .i64 s.2.1, .int .i64 s.2.2] 60) hlt0).trans hbx)
      have hszA := hbA.size
      clear hown hbel hA hbA hbx
      cases hp : ((s.1 == p) && (s.2.1 == q))
      · rw [hp, if_neg Bool.false_ne_true] at hnx
        have HN := Lib.hid hnx
        clear hnx
        cases hp1 : (s.1 == p)
        · go_wp2_with fail
          go_roundw
          case rel => exact ⟨k + 1, by omega, by go_num, by rw [HN.out]; exact HOA.out, HBA.out, HBXA.out⟩
          case measure => simp [intOf]; omega
        · rw [hp1, Bool.true_and] at hp
          go_wp2_with fail
          go_roundw
          case rel => exact ⟨k + 1, by omega, by go_num, by rw [HN.out]; exact HOA.out, HBA.out, HBXA.out⟩
          case measure => simp [intOf]; omega
      · rw [hp, if_pos rfl] at hnx
        have HN := Lib.hid hnx
        rw [Bool.and_eq_true] at hp
        obtain ⟨hp1, hp2⟩ := hp
        clear hnx
        go_wp2_with (at_builtin; refine wpList_append_own _ rfl _ _ 27 rfl (w.heap.size + 1) 3 i0 (.int .i64 0) 1 8 Tryz.underlying27 hi hz0 hz1 hz2 rfl (by decide) _ _ _ rfl (HOA.out.alloc _) ⟨wr.heap.size + 1, 0, none⟩ 1 1 [.int .i64 s.2.2] rfl rfl ?c1 ?c2 ?c3 ?c4 ?c5 ?_)
        case c1 => intro j u hj; match j, hj with | 0, hj => (simp at hj; subst hj; simp [Addr.add])
        case c2 => intro u hu; simp at hu; subst hu; rfl
        case c3 => unfold maxLen; omega
        case c4 => omega
        case c5 => simp; omega
        intro v2 w2 hown2 hgrow2 _
        have hints : ints lk ++ [.int .i64 s.2.2] = ints (nextA (l.steps.take (k + 1)) p q) := by rw [HN.out]; simp [ints]
        have hlen : lk.length + 1 = (nextA (l.steps.take (k + 1)) p q).length := by rw [HN.out]; simp
        rw [hints, hlen] at hown2
        have HO2 := Lib.hid hown2
        have HG2 := Lib.hid ((HBA.out.alloc hszA _).grown hgrow2 (by simp; omega) (fun q hq => by have := (HO.out.lt q hq).1; omega))
        have HBX2 := Lib.hid ((hgrow2.block w.heap.size (by simp; omega) (fun e => by have := (HO.out.lt _ e.symm).1; omega)).trans ((heap_alloc_old _ _ (by simp; omega)).trans HBXA.out))
        clear hown2 hgrow2 hints hlen
        go_wp2_with fail
        go_roundw
        case rel => exact ⟨k + 1, by omega, by go_num, HO2.out, HG2.out, HBX2.out⟩
        case measure => simp [intOf]; omega
    · obtain rfl : k = l.steps.length := by omega
      rw [List.take_length] at hown ⊢
      have HO := Lib.hid (owns_mono hown (Nat.le_succ w.heap.size))
      have HBE := Lib.hid hbel
      clear hown hbel hbx
      go_wp2_with fail
      go_ret
      exact ⟨_, rfl, HO.out, HBE.out⟩

end Go.Proofs.YtojdobpmknadhaaGreatDoor
