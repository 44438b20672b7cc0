/- The reference's conjunction of formulas: walked. -/
import Derived.Test.YtdgnhfhaaghoaaaGreatDoorProg
import Derived.Test.YtdgnhfhaaghoaaaGreatDoorJ10
import Derived.Test.YtdgnhfhaaghoaaaGreatDoorJ20
import Derived.Test.YtdgnhfhaaghoaaaGreatDoorJ23
import Derived.Test.YtdgnhfhaaghoaaaGreatDoorJ25
import Derived.Test.YtdgnhfhaaghoaaaGreatDoorJ7
set_option linter.unusedSimpArgs false
set_option linter.unusedVariables false
namespace Go.Proofs.YtdgnhfhaaghoaaaGreatDoor
open Go.RowKit

theorem step_append_nil {P : Program} {Y} {o : Oper} {a : Act} {w : World} {K : Act → World → Prop} {Q : Exit → Act → World → Prop} {E : Prop} (hgd : o.guard = none) (s x : Operand) (t : TypeId)
    (ho : o.op = .call { callee := .builtin .append, args := #[s, x], argTypes := #[t, t] })
    (base : Nat) (e : TypeId) (i : TypeInfo) (size : Nat) (ht : P.underlying t = some (.slice e)) (hi : P.info? e = some i)
    (v : Value) (n c : Nat) (xs : List Value) (hs : a.eval s = v) (hown : w.ownsRow base e size v n xs) (hx : a.eval x = .slice none 0 c)
    (h : K (a.put o.dst v) w) : if Region.wanted o Y = true then Oper.wp P o a w K Q else E := by
  rw [if_pos (by simp [Region.wanted, hgd])]
  have hrun := run_append_none_cap (P := P) (w := w) base t o.type e i size ht hi v n c xs hown
  unfold Oper.wp
  simp [execOp, ho, resolve, invoke, builtin, hs, hx, hrun, Result.andThen]
  exact h
/-- append of a whole row of numbers, as one operation of a region. -/
theorem step_append_row {Y} {o : Oper} {a : Act} {w : World} {K : Act → World → Prop} {Q : Exit → Act → World → Prop} {E : Prop} (hgd : o.guard = none) (s x : Operand)
    (ho : o.op = .call { callee := .builtin .append, args := #[s, x], argTypes := #[30, 30] })
    (base B2 : Nat) (v : Value) (n : Nat) (xs : List Value) (hs : a.eval s = v) (hown : w.ownsRow base 3 1 v n xs)
    (u : Value) (m : Nat) (ys : List Value) (hx : a.eval x = u) (hu : w.ownsRow B2 3 1 u m ys) (h1 : ∀ y ∈ ys, y.oneCell' = true) (hn : n + m ≤ 1000000000) (hbase : base ≤ w.heap.size)
    (h : ∀ v' w', w'.ownsRow base 3 1 v' (n + m) (xs ++ ys) → Kept (fun q => v.ownBlock = some q) w w' → K (a.put o.dst v') w') : if Region.wanted o Y = true then Oper.wp Tryz.prog o a w K Q else E := by
  obtain ⟨i0, hi, hz0, hz1, hz2⟩ := info_parts info_ci
  rcases hu.2 with ⟨rfl, rfl⟩ | ⟨g, cap, cur, rfl, _, _, _, _⟩
  · have hy : ys = [] := by have := hu.1; simpa using this
    subst hy
    refine step_append_nil hgd s x 30 ho base 3 i0 1 Tryz.underlying30 hi v n 0 xs hs hown hx ?_
    exact h v w (by rw [List.append_nil]; exact hown) (Kept.refl _ _)
  · rw [if_pos (by simp [Region.wanted, hgd])]
    refine wp_append_own w s x 30 ho base 3 i0 (.int .i64 0) 1 8 Tryz.underlying30 hi hz0 hz1 hz2 rfl (by decide) v n xs hs hown ⟨g, 0, none⟩ m cap ys hx (by have := hu.1; omega) (fun j y hj => by
      have := hu.cells (g := g) rfl j y hj
      exact this) h1 (by unfold maxLen; omega) (by omega) hbase (fun v' w' h2 h3 _ => h v' w' h2 (kept_of_grown h3))

/-- Rows behind an address, all of them in blocks below N. -/
def Lists (w : World) (N : Nat) (A : Option Addr) (xss : List (List Int)) : Prop :=
  ∃ vs : List Value, vs.length = xss.length ∧ Cells w A vs ∧ ∀ (i : Nat) v xs, vs[i]? = some v → xss[i]? = some xs → w.ownsRow 0 3 1 v xs.length (ints xs) ∧ ∀ q, v.ownBlock = some q → q < N
theorem Lists.below {w w' : World} {N : Nat} {A : Option Addr} {xss : List (List Int)} (h : Lists w N A xss) (hb : Below w.heap.size w w') : Lists w' N A xss := by
  obtain ⟨vs, h1, h2, h3⟩ := h
  exact ⟨vs, h1, h2.below hb, fun i v xs a b => ⟨owns_below (h3 i v xs a b).1 hb (Nat.le_refl _), (h3 i v xs a b).2⟩⟩
theorem Lists.tail {w : World} {N b o : Nat} {x : List Int} {xss : List (List Int)} (h : Lists w N (some ⟨b, o, none⟩) (x :: xss)) : Lists w N (some ⟨b, o + 1, none⟩) xss := by
  obtain ⟨vs, h1, h2, h3⟩ := h
  cases vs with
  | nil => simp at h1
  | cons v vs =>
    refine ⟨vs, by simpa using h1, fun j u hj => ?_, fun i u xs a b => h3 (i + 1) u xs (by simpa using a) (by simpa using b)⟩
    obtain ⟨b', o', e, hc⟩ := h2 (j + 1) u (by simpa using hj)
    cases e
    refine ⟨b, o + 1, rfl, ?_⟩
    rw [show o + 1 + j = o + (j + 1) by omega]
    exact hc
theorem Lists.head {w : World} {N : Nat} {A : Option Addr} {x : List Int} {xss : List (List Int)} (h : Lists w N A (x :: xss)) : ∃ b o Ax cx, A = some ⟨b, o, none⟩ ∧ w.cell? ⟨b, o, none⟩ = some (.slice Ax x.length cx) ∧ w.ownsRow 0 3 1 (.slice Ax x.length cx) x.length (ints x) ∧ ∀ q, (Value.slice Ax x.length cx).ownBlock = some q → q < N := by
  obtain ⟨vs, h1, h2, h3⟩ := h
  cases vs with
  | nil => simp at h1
  | cons v vs =>
    obtain ⟨b, o, e, hc⟩ := h2 0 v rfl
    obtain ⟨h4, h5⟩ := h3 0 v x rfl rfl
    obtain ⟨Ax, cx, rfl, h4⟩ := owns_form h4
    exact ⟨b, o, Ax, cx, e, hc, h4, h5⟩

/-- The facts of the region that puts a conjunction together: the row [3] (b0), the first formula behind it (b4), the others' conjunction (b7), all of them (b8). -/
structure AF (w : World) (N : Nat) (x G : List Int) (b0 b4 b7 b8 : Bool) (bb : Nat) (v1 r v2 : Value) (W : World) : Prop where
  o1 : b4 = true → b0 = true
  o2 : b8 = true → b4 = true ∧ b7 = true
  z : Below w.heap.size w W
  h0 : b0 = true → b4 = false → W.ownsRow w.heap.size 3 1 (.slice (some ⟨bb, 0, none⟩) 1 1) 1 [.int .i64 3]
  h4 : b4 = true → b8 = false → W.ownsRow w.heap.size 3 1 v1 (3 :: x).length (ints (3 :: x))
  h7 : b7 = true → b8 = false → W.ownsRow 0 3 1 r G.length (ints G)
  hd : b0 = true → b4 = false → b7 = true → r.ownBlock ≠ some bb
  h8 : b8 = true → W.ownsRow w.heap.size 3 1 v2 (3 :: (x ++ G)).length (ints (3 :: (x ++ G)))

section
variable {w W W' : World} {N : Nat} {x G : List Int} {b0 b4 b7 b8 : Bool} {bb : Nat} {v1 r v2 : Value}
theorem AF.start (bb : Nat) (v1 r v2 : Value) : AF w N x G false false false false bb v1 r v2 w.drew :=
  { o1 := fun h => (nomatch h), o2 := fun h => (nomatch h), z := (Below.refl _ _).drew, h0 := fun h => (nomatch h), h4 := fun h => (nomatch h), h7 := fun h => (nomatch h), hd := fun h => (nomatch h), h8 := fun h => (nomatch h) }
theorem owns_lt {w : World} {B : Nat} {e : TypeId} {s : Nat} {v : Value} {n : Nat} {xs : List Value} (h : w.ownsRow B e s v n xs) : ∀ q, v.ownBlock = some q → q < w.heap.size := fun q hq => (h.lt q hq).2
theorem AF.build (h : AF w N x G false b4 b7 b8 bb v1 r v2 W) : AF w N x G true b4 b7 b8 W.heap.size v1 r v2 (W.alloc (.cells #[.int .i64 3] 3)) := by
  have e4 : b4 = false := by cases b4; rfl; exact absurd (h.o1 rfl) (by simp)
  have e8 : b8 = false := by cases b8; rfl; exact absurd (h.o2 rfl).1 (by simp [e4])
  subst e4 e8
  have hb : Below W.heap.size W (W.alloc (.cells #[.int .i64 3] 3)) := (Below.refl _ _).alloc (Nat.le_refl _) _
  exact { o1 := fun h => (nomatch h), o2 := fun h => (nomatch h), z := h.z.trans (hb.mono h.z.size), h0 := fun _ _ => owns_mono (ownsRow_lit (n := 1) (xs := [.int .i64 3]) (heap_alloc_new _ _) rfl (by unfold maxLen; omega)) h.z.size, h4 := fun h => (nomatch h), h7 := fun h1 h2 => owns_below (h.h7 h1 h2) hb (Nat.le_refl _), hd := fun _ _ h7 e => by have := owns_lt (h.h7 h7 rfl) _ e; omega, h8 := fun h => (nomatch h) }
theorem AF.app1 {v1' : Value} (h : AF w N x G true false b7 b8 bb v1 r v2 W) (ho : W'.ownsRow w.heap.size 3 1 v1' (1 + x.length) ([.int .i64 3] ++ ints x)) (hk : Kept (fun q => (Value.slice (some ⟨bb, 0, none⟩) 1 1).ownBlock = some q) W W') : AF w N x G true true b7 b8 bb v1' r v2 W' := by
  have e8 : b8 = false := by cases b8; rfl; exact absurd (h.o2 rfl).1 (by simp)
  subst e8
  have hlt := h.h0 rfl rfl
  have e1 : (3 :: x).length = 1 + x.length := by simp; omega
  have e2 : ints (3 :: x) = [.int .i64 3] ++ ints x := by simp [ints]
  exact { o1 := fun _ => rfl, o2 := fun h => (nomatch h), z := below_kept h.z hk (fun q hq => (hlt.lt q hq).1) h.z.size, h0 := fun _ h => (nomatch h), h4 := fun _ _ => by rw [e1, e2]; exact ho, h7 := fun h1 h2 => owns_kept (h.h7 h1 h2) hk (fun g hg e => h.hd rfl rfl h1 (by rw [hg]; exact e.symm ▸ rfl)), hd := fun _ h => (nomatch h), h8 := fun h => (nomatch h) }
theorem AF.called {r' : Value} (h : AF w N x G b0 b4 false b8 bb v1 r v2 W) (hN : N ≤ w.heap.size) (hb : Below W.heap.size W W') (hr : W'.ownsRow 0 3 1 r' G.length (ints G)) (hq : ∀ q, r'.ownBlock = some q → q < N ∨ W.heap.size ≤ q) : AF w N x G b0 b4 true b8 bb v1 r' v2 W' := by
  have e8 : b8 = false := by cases b8; rfl; exact absurd (h.o2 rfl).2 (by simp)
  subst e8
  exact { o1 := h.o1, o2 := fun h => (nomatch h), z := h.z.trans (hb.mono h.z.size), h0 := fun h1 h2 => owns_below (h.h0 h1 h2) hb (Nat.le_refl _), h4 := fun h1 h2 => owns_below (h.h4 h1 h2) hb (Nat.le_refl _), h7 := fun _ _ => hr, hd := fun h1 h2 _ e => (by
    have h3 := (h.h0 h1 h2).lt bb rfl
    rcases hq bb e with h4 | h4 <;> omega), h8 := fun h => (nomatch h) }
theorem AF.app2 {v2' : Value} (h : AF w N x G b0 true true false bb v1 r v2 W) (ho : W'.ownsRow w.heap.size 3 1 v2' ((3 :: x).length + G.length) (ints (3 :: x) ++ ints G)) (hk : Kept (fun q => v1.ownBlock = some q) W W') : AF w N x G b0 true true true bb v1 r v2' W' := by
  have hlt := h.h4 rfl rfl
  have e1 : (3 :: (x ++ G)).length = (3 :: x).length + G.length := by simp; omega
  have e2 : ints (3 :: (x ++ G)) = ints (3 :: x) ++ ints G := by simp [ints]
  exact { o1 := fun _ => h.o1 rfl, o2 := fun _ => ⟨rfl, rfl⟩, z := below_kept h.z hk (fun q hq => (hlt.lt q hq).1) h.z.size, h0 := fun _ h => (nomatch h), h4 := fun _ h => (nomatch h), h7 := fun _ h => (nomatch h), hd := fun _ h => (nomatch h), h8 := fun _ => by rw [e1, e2]; exact ho }
end

theorem allS_len : ∀ (xss : List (List Int)), (∀ xs ∈ xss, xs.length ≤ 200) → (allS xss).length ≤ 1 + 201 * xss.length
  | [], _ => by simp [allS]
  | [a], h => by have := h a (by simp); simp [allS]; omega
  | a :: b :: r, h => by
    have h1 := h a (by simp)
    have h2 := allS_len (b :: r) (fun xs hx => h xs (List.mem_cons_of_mem _ hx))
    simp only [allS, List.length_cons, List.length_append] at h2 ⊢
    omega

set_option maxRecDepth 100000 in
set_option maxHeartbeats 4000000 in
theorem l11All_any (N : Nat) : ∀ (xss : List (List Int)) (A : Option Addr) (c : Nat) (w : World), xss.length ≤ c → xss.length ≤ 1000000 → (∀ xs ∈ xss, xs.length ≤ 200) → N ≤ w.heap.size → Lists w N A xss →
    Calls Tryz.prog 138 #[.slice A xss.length c] w fun e w' => ∃ r, e = .returned r ∧ w'.ownsRow 0 3 1 r (allS xss).length (ints (allS xss)) ∧ Below w.heap.size w w' ∧ ∀ q, r.ownBlock = some q → q < N ∨ w.heap.size ≤ q := by
  intro xss
  induction xss with
  | nil =>
    intro A c w _ _ _ _ hL
    have HO := Lib.hid (ownsRow_lit (n := 1) (w := w.alloc (.cells #[.int .i64 0] 3)) (xs := [.int .i64 0]) (heap_alloc_new _ _) rfl (by unfold maxLen; omega))
    have HB := Lib.hid ((Below.refl w.heap.size w).alloc (Nat.le_refl _) (.cells #[.int .i64 0] 3))
    clear hL
    go_enter Tryz.func138, Tryz.ntmps138
    go_wp2_with fail
    go_ret
    exact ⟨_, rfl, owns_mono HO.out (Nat.zero_le _), HB.out, fun q hq => .inr (by cases hq; exact Nat.le_refl _)⟩
  | cons x xss ih =>
    intro A c w hc hn h200 hN hL
    obtain ⟨b, o, Ax, cx, rfl, c0, hx, hq⟩ := hL.head
    cases xss with
    | nil =>
      have HX := Lib.hid hx
      have HQ := Lib.hid hq
      clear hL hx hq ih
      go_enter Tryz.func138, Tryz.ntmps138
      go_wp2_with fail
      go_ret
      exact ⟨_, rfl, HX.out, Below.refl _ _, fun q hq => .inl (HQ.out q hq)⟩
    | cons y xss =>
      have hxl := h200 x (by simp)
      have hgl := allS_len (y :: xss) (fun xs hx => h200 xs (List.mem_cons_of_mem _ hx))
      have hcl : (y :: xss).length ≤ c - 1 := by simp at hc ⊢; omega
      have HIH := Lib.hid (fun W (hW : Below w.heap.size w W) => ih (some ⟨b, o + 1, none⟩) (c - 1) W hcl (by simp at hn ⊢; omega) (fun xs hx => h200 xs (List.mem_cons_of_mem _ hx)) (Nat.le_trans hN hW.size) (hL.tail.below hW))
      obtain ⟨n, hnn⟩ : ∃ n, n = (y :: xss).length := ⟨_, rfl⟩
      have hnx : (x :: y :: xss).length = n + 1 := by rw [hnn]; rfl
      have hn1 : 1 ≤ n := by rw [hnn]; simp
      rw [hnx] at hc hn ⊢
      rw [← hnn] at HIH hgl
      have e0 : (((n : Int) + 1) == 0) = false := by rw [beq_eq_false_iff_ne]; omega
      have e1 : (((n : Int) + 1) == 1) = false := by rw [beq_eq_false_iff_ne]; omega
      have HALL := Lib.hid (show allS (x :: y :: xss) = 3 :: (x ++ allS (y :: xss)) from rfl)
      rw [HALL.out]
      have q1 : (1 : Int) ≤ ((n : Int) + 1) := by omega
      have q2 : ((n : Int) + 1) ≤ (c : Int) := by omega
      have hc1 : ¬ c = 1 := by omega
      have hc2 : ¬ 1 = c := by omega
      have HC0 := Lib.hid (show ∀ W, Below w.heap.size w W → W.cell? ⟨b, o, none⟩ = some (.slice Ax x.length cx) ∧ W.ownsRow 0 3 1 (.slice Ax x.length cx) x.length (ints x) from fun W hW => ⟨cell_below hW c0 (lt_of_cell c0), owns_below hx hW (Nat.le_refl _)⟩)
      generalize allS (y :: xss) = G at *
      clear hL hx hq ih HALL h200 hcl hnx hnn c0
      go_enter Tryz.func138, Tryz.ntmps138
      go_wp2_with fail
      refine wp_region_inv (by kernel_rfl) (fun L act W => ∃ (bb : Nat) (v1 r v2 : Value), act = ⟨#[Value.slice (some ⟨b, o, none⟩) (n + 1) c, undef, bsel (L 9) (v2) (Value.slice none 0 0), Value.slice (some ⟨b, o, none⟩) (n + 1) c, Value.int IntKind.i64 ((n : Int) + 1), Value.bool false, undef, Value.slice (some ⟨b, o, none⟩) (n + 1) c, Value.int IntKind.i64 ((n : Int) + 1), Value.bool false, undef, undef, undef, bsel (L 0) (.slice (some ⟨bb, 0, none⟩) 1 1) (undef), bsel (L 1) (.slice (some ⟨b, o, none⟩) (n + 1) c) (undef), bsel (L 2) (.pointer (some ⟨b, o, none⟩)) (undef), bsel (L 3) (.slice Ax x.length cx) (undef), bsel (L 4) (v1) (undef), bsel (L 5) (.slice (some ⟨b, o, none⟩) (n + 1) c) (undef), bsel (L 6) (.slice (some ⟨b, o + 1, none⟩) n (c - 1)) (undef), bsel (L 7) (r) (undef), bsel (L 8) (v2) (undef)], []⟩ ∧ (L 9 = true → L 8 = true) ∧ AF w N x G (L 0) (L 4) (L 7) (L 8) bb v1 r v2 W) ?h0 ?step ?fin
      case h0 => exact ⟨0, .bool false, .bool false, .bool false, rfl, fun h => absurd h Bool.false_ne_true, AF.start _ _ _ _⟩
      case step =>
        intro L act W q o hJ hL ho hd K3 hK3
        obtain ⟨bb, v1, r, v2, rfl, hI, hF⟩ := hJ
        match q, ho with
        | 0, ho =>
          simp only [List.getElem?_toArray, List.getElem?_cons_zero, List.getElem?_cons_succ, Option.some.injEq] at ho
          subst ho
          simp [Region.binds] at hd
          rw [hL] at hF
          have HF := Lib.hid hF.build
          clear hF
          go_simp
          exact hK3 _ _ ⟨W.heap.size, v1, r, v2, by simp [upd, bsel], by simpa [upd] using hI, by simpa [upd] using HF.out⟩
        | 1, ho =>
          simp only [List.getElem?_toArray, List.getElem?_cons_zero, List.getElem?_cons_succ, Option.some.injEq] at ho
          subst ho
          simp [Region.binds] at hd
          try simp only [hd, bsel_t]
          have HF := Lib.hid hF
          clear hF
          go_simp
          exact hK3 _ _ ⟨bb, v1, r, v2, by simp [upd, bsel], by simpa [upd] using hI, HF.out⟩
        | 2, ho =>
          simp only [List.getElem?_toArray, List.getElem?_cons_zero, List.getElem?_cons_succ, Option.some.injEq] at ho
          subst ho
          simp [Region.binds] at hd
          try simp only [hd, bsel_t]
          have HF := Lib.hid hF
          clear hF
          go_simp
          exact hK3 _ _ ⟨bb, v1, r, v2, by simp [upd, bsel, hd], by simpa [upd] using hI, HF.out⟩
        | 3, ho =>
          simp only [List.getElem?_toArray, List.getElem?_cons_zero, List.getElem?_cons_succ, Option.some.injEq] at ho
          subst ho
          simp [Region.binds] at hd
          obtain ⟨cc, _⟩ := HC0.out W hF.z
          try simp only [hd, bsel_t]
          have HF := Lib.hid hF
          clear hF
          go_simp
          exact hK3 _ _ ⟨bb, v1, r, v2, by simp [upd, bsel, hd], by simpa [upd] using hI, HF.out⟩
        | 4, ho =>
          simp only [List.getElem?_toArray, List.getElem?_cons_zero, List.getElem?_cons_succ, Option.some.injEq] at ho
          subst ho
          simp [Region.binds] at hd
          simp only [hd, hL] at hF
          simp only [hd, bsel_t]
          have HF := Lib.hid hF
          clear hF
          refine step_append_row rfl (.tmp 13) (.tmp 16) rfl w.heap.size 0 (.slice (some ⟨bb, 0, none⟩) 1 1) 1 [.int .i64 3] (by rfl) (HF.out.h0 rfl rfl) (.slice Ax x.length cx) x.length (ints x) (by rfl) (HC0.out W HF.out.z).2 (ints_one _) (by omega) HF.out.z.size ?_
          intro v1' W' ho hk
          have HF := Lib.hid (HF.out.app1 ho hk)
          clear ho hk
          go_simp
          exact hK3 _ _ ⟨bb, v1', r, v2, by simp [upd, bsel, hd], by simpa [upd] using hI, by simpa [upd, hd] using HF.out⟩
        | 5, ho =>
          simp only [List.getElem?_toArray, List.getElem?_cons_zero, List.getElem?_cons_succ, Option.some.injEq] at ho
          subst ho
          simp [Region.binds] at hd
          try simp only [hd, bsel_t]
          have HF := Lib.hid hF
          clear hF
          go_simp
          exact hK3 _ _ ⟨bb, v1, r, v2, by simp [upd, bsel], by simpa [upd] using hI, HF.out⟩
        | 6, ho =>
          simp only [List.getElem?_toArray, List.getElem?_cons_zero, List.getElem?_cons_succ, Option.some.injEq] at ho
          subst ho
          simp [Region.binds] at hd
          try simp only [hd, bsel_t]
          have HF := Lib.hid hF
          clear hF
          go_simp
          exact hK3 _ _ ⟨bb, v1, r, v2, by simp [upd, bsel, hd], by simpa [upd] using hI, HF.out⟩
        | 7, ho =>
          simp only [List.getElem?_toArray, List.getElem?_cons_zero, List.getElem?_cons_succ, Option.some.injEq] at ho
          subst ho
          simp [Region.binds] at hd
          simp only [hd, hL] at hF
          simp only [hd, bsel_t]
          have HF := Lib.hid hF
          clear hF
          go_simp
          go_at_call 138
          (with_reducible refine (HIH.out W HF.out.z).mono ?_)
          rintro e W' ⟨r', rfl, hr, hb, hq⟩
          have HF := Lib.hid (HF.out.called hN hb hr (fun q e => (hq q e).imp id id))
          clear hr hb hq
          go_simp
          exact hK3 _ _ ⟨bb, v1, r', v2, by simp [upd, bsel, hd], by simpa [upd] using hI, by simpa [upd, hd] using HF.out⟩
        | 8, ho =>
          simp only [List.getElem?_toArray, List.getElem?_cons_zero, List.getElem?_cons_succ, Option.some.injEq] at ho
          subst ho
          simp [Region.binds] at hd
          have hz : L 9 = false := by
            cases e : L 9
            · rfl
            · exact absurd (hI e) (by simp [hL])
          obtain ⟨d4, d7⟩ := hd
          have hd : L 4 = true ∧ L 7 = true := ⟨d4, d7⟩
          rw [d4, d7, hL] at hF
          simp only [hd, bsel_t]
          have HF := Lib.hid hF
          clear hF
          refine step_append_row rfl (.tmp 17) (.tmp 20) rfl w.heap.size 0 v1 _ _ (by rfl) (HF.out.h4 rfl rfl) r _ _ (by rfl) (HF.out.h7 rfl rfl) (ints_one _) (by simp; omega) HF.out.z.size ?_
          intro v2' W' ho hk
          have HF := Lib.hid (HF.out.app2 ho hk)
          clear ho hk
          go_simp
          exact hK3 _ _ ⟨bb, v1, r, v2', by simp [upd, bsel, hd, hz], by simp [upd], by simpa [upd, hd] using HF.out⟩
        | 9, ho =>
          simp only [List.getElem?_toArray, List.getElem?_cons_zero, List.getElem?_cons_succ, Option.some.injEq] at ho
          subst ho
          simp [Region.binds] at hd
          try simp only [hd, bsel_t]
          have HF := Lib.hid hF
          clear hF
          go_simp
          exact hK3 _ _ ⟨bb, v1, r, v2, by simp [upd, bsel, hd], by simp [upd, hd], HF.out⟩
        | q + 10, ho => simp at ho
      case fin =>
        intro L act W hJ hfin
        obtain ⟨bb, v1, r, v2, rfl, hI, hF⟩ := hJ
        have l0 : L 0 = true := by
          cases e : L 0
          · have x := hfin 0 _ rfl e
            simp [Region.binds] at x
          · rfl
        have l1 : L 1 = true := by
          cases e : L 1
          · have x := hfin 1 _ rfl e
            simp [Region.binds, l0] at x
          · rfl
        have l2 : L 2 = true := by
          cases e : L 2
          · have x := hfin 2 _ rfl e
            simp [Region.binds, l0, l1] at x
          · rfl
        have l3 : L 3 = true := by
          cases e : L 3
          · have x := hfin 3 _ rfl e
            simp [Region.binds, l0, l1, l2] at x
          · rfl
        have l4 : L 4 = true := by
          cases e : L 4
          · have x := hfin 4 _ rfl e
            simp [Region.binds, l0, l1, l2, l3] at x
          · rfl
        have l5 : L 5 = true := by
          cases e : L 5
          · have x := hfin 5 _ rfl e
            simp [Region.binds, l0, l1, l2, l3, l4] at x
          · rfl
        have l6 : L 6 = true := by
          cases e : L 6
          · have x := hfin 6 _ rfl e
            simp [Region.binds, l0, l1, l2, l3, l4, l5] at x
          · rfl
        have l7 : L 7 = true := by
          cases e : L 7
          · have x := hfin 7 _ rfl e
            simp [Region.binds, l0, l1, l2, l3, l4, l5, l6] at x
          · rfl
        have l8 : L 8 = true := by
          cases e : L 8
          · have x := hfin 8 _ rfl e
            simp [Region.binds, l0, l1, l2, l3, l4, l5, l6, l7] at x
          · rfl
        have l9 : L 9 = true := by
          cases e : L 9
          · have x := hfin 9 _ rfl e
            simp [Region.binds, l0, l1, l2, l3, l4, l5, l6, l7, l8] at x
          · rfl
        simp only [l0, l1, l2, l3, l4, l5, l6, l7, l8, l9, bsel_t]
        have h8 := hF.h8 l8
        have hz := hF.z
        have hwz := hz.size
        obtain ⟨A2, c2, rfl, h8⟩ := owns_form h8
        have H8 := Lib.hid h8
        have HZ := Lib.hid hz
        clear hF hfin h8 hz l0 l1 l2 l3 l4 l5 l6 l7 l8 l9
        go_wp2_with fail
        go_ret
        exact ⟨_, rfl, owns_mono H8.out (Nat.zero_le _), HZ.out, fun q hq => .inr (H8.out.lt q hq).1⟩

end Go.Proofs.YtdgnhfhaaghoaaaGreatDoor
