/- While labelled systems are joined: what holds behind the operations that have come up. -/
import Derived.Test.YtdgnhfhaaghoaaaGreatDoorProg
import Derived.Test.YtdgnhfhaaghoaaaGreatDoorJ4
import Derived.Test.YtdgnhfhaaghoaaaGreatDoorJ0
set_option linter.unusedSimpArgs false
set_option linter.unusedVariables false
namespace Go.Proofs.YtdgnhfhaaghoaaaGreatDoor
open Go.RowKit

def shiftS (n : Nat) (s : I3) : I3 := (wrap64 (s.1 + n), s.2.1, wrap64 (s.2.2 + n))
def uniL (a b : Lab) : Lab := ⟨a.shows ++ b.shows, a.steps ++ b.steps.map (shiftS a.shows.length)⟩

theorem owns_some {w : World} {B : Nat} {e : TypeId} {s : Nat} {v : Value} {n : Nat} {xs : List Value} (h : w.ownsRow B e s v n xs) (hn : 1 ≤ n) : ∃ g c, v = .slice (some ⟨g, 0, none⟩) n c ∧ B ≤ g ∧ g < w.heap.size := by
  rcases h.2 with ⟨rfl, rfl⟩ | ⟨g, cap, cur, rfl, _⟩
  · omega
  · have := h.lt g rfl
    exact ⟨g, cap, rfl, this.1, this.2⟩

/-- Two tables, each whole, no row of one in the other. -/
def Joinable (w : World) (B : Nat) (u1 u2 : Value) (l1 l2 : List (List Int)) : Prop :=
  ∃ (vs1 vs2 : List Value) (B2 : Nat), w.ownsRow B 30 1 u1 l1.length vs1 ∧ (∀ (i : Nat) v xs, vs1[i]? = some v → l1[i]? = some xs → w.ownsRow B 3 1 v xs.length (ints xs)) ∧
    (∀ (i j : Nat) v v' b, i < j → vs1[i]? = some v → vs1[j]? = some v' → v.ownBlock = some b → v'.ownBlock ≠ some b) ∧
    (∀ (i : Nat) v b, vs1[i]? = some v → v.ownBlock = some b → b < B2) ∧ w.ownsRow B2 30 1 u2 l2.length vs2 ∧
    (∀ (i : Nat) v xs, vs2[i]? = some v → l2[i]? = some xs → w.ownsRow B2 3 1 v xs.length (ints xs)) ∧
    (∀ (i j : Nat) v v' b, i < j → vs2[i]? = some v → vs2[j]? = some v' → v.ownBlock = some b → v'.ownBlock ≠ some b) ∧ B ≤ B2

theorem owns_cells {w : World} {B : Nat} {e : TypeId} {s : Nat} {v : Value} {n : Nat} {xs : List Value} {g : Nat} (h : w.ownsRow B e s v n xs) (hv : v.ownBlock = some g) : ∃ cs, w.heap[g]? = some (.cells cs e) := by
  rcases h.2 with ⟨rfl, _⟩ | ⟨g1, _, cur, rfl, _, a1, _⟩
  · simp [Value.ownBlock] at hv
  · simp only [Value.ownBlock, Option.some.injEq] at hv
    subst hv
    exact ⟨cur, a1⟩
theorem Joinable.below {w w' : World} {B : Nat} {u1 u2 : Value} {l1 l2 : List (List Int)} (h : Joinable w B u1 u2 l1 l2) (hb : Below w.heap.size w w') : Joinable w' B u1 u2 l1 l2 := by
  obtain ⟨vs1, vs2, B2, a1, a2, a3, a4, a5, a6, a7, a8⟩ := h
  exact ⟨vs1, vs2, B2, owns_below a1 hb (Nat.le_refl _), fun i v xs x y => owns_below (a2 i v xs x y) hb (Nat.le_refl _), a3, a4, owns_below a5 hb (Nat.le_refl _), fun i v xs x y => owns_below (a6 i v xs x y) hb (Nat.le_refl _), a7, a8⟩

theorem owns_but {w w' : World} {B g : Nat} {e e' : TypeId} {s : Nat} {v : Value} {n : Nat} {xs : List Value} {cs : Array Value} (h : w.ownsRow B e s v n xs) (hk : ∀ k, k < w.heap.size → k ≠ g → w'.heap[k]? = w.heap[k]?) (hb : w.heap[g]? = some (.cells cs e')) (hne : e ≠ e') : w'.ownsRow B e s v n xs := by
  refine ⟨h.1, ?_⟩
  rcases h.2 with hn | ⟨g1, cap, cur, rfl, hbg, hgg, rest⟩
  · exact .inl hn
  · have hlt := (Array.getElem?_eq_some_iff.1 hgg).1
    refine .inr ⟨g1, cap, cur, rfl, hbg, ?_, rest⟩
    rw [hk g1 hlt (fun e1 => ?_)]
    · exact hgg
    · subst e1
      rw [hgg] at hb
      injection hb with hb
      injection hb with _ hb
      exact hne hb
theorem TRows.but {w w' : World} {B g : Nat} {u : Value} {l : List (List Int)} {e' : TypeId} {cs : Array Value} (h : TRows w B u l) (hk : ∀ k, k < w.heap.size → k ≠ g → w'.heap[k]? = w.heap[k]?) (hb : w.heap[g]? = some (.cells cs e')) (h1 : 30 ≠ e') (h2 : 3 ≠ e') : TRows w' B u l := by
  obtain ⟨vs, a, b, c⟩ := h
  exact ⟨vs, owns_but a hk hb h1, fun i v xs x y => owns_but (b i v xs x y) hk hb h2, c⟩
theorem Joinable.but {w w' : World} {B g : Nat} {u1 u2 : Value} {l1 l2 : List (List Int)} {e' : TypeId} {cs : Array Value} (h : Joinable w B u1 u2 l1 l2) (hk : ∀ k, k < w.heap.size → k ≠ g → w'.heap[k]? = w.heap[k]?) (hb : w.heap[g]? = some (.cells cs e')) (h1 : 30 ≠ e') (h2 : 3 ≠ e') : Joinable w' B u1 u2 l1 l2 := by
  obtain ⟨vs1, vs2, B2, a1, a2, a3, a4, a5, a6, a7, a8⟩ := h
  exact ⟨vs1, vs2, B2, owns_but a1 hk hb h1, fun i v xs x y => owns_but (a2 i v xs x y) hk hb h2, a3, a4, owns_but a5 hk hb h1, fun i v xs x y => owns_but (a6 i v xs x y) hk hb h2, a7, a8⟩
theorem heap_but {w w' : World} {g p : Nat} {e e' : TypeId} {cs cs' : Array Value} (hk : ∀ k, k < w.heap.size → k ≠ g → w'.heap[k]? = w.heap[k]?) (hb : w.heap[g]? = some (.cells cs e')) (hp : w.heap[p]? = some (.cells cs' e)) (hne : e ≠ e') : w'.heap[p]? = some (.cells cs' e) := by
  rw [hk p (Array.getElem?_eq_some_iff.1 hp).1 (fun e1 => ?_)]
  · exact hp
  · subst e1
    rw [hp] at hb
    injection hb with hb
    injection hb with _ hb
    exact hne hb

/-- A table, and then a second one made. -/
theorem Joinable.of {w w' : World} {B : Nat} {u1 u2 : Value} {l1 l2 : List (List Int)} (h1 : TRows w B u1 l1) (hb : Below w.heap.size w w') (h2 : TRows w' w.heap.size u2 l2) (hB : B ≤ w.heap.size) : Joinable w' B u1 u2 l1 l2 := by
  obtain ⟨vs1, a1, a2, a3⟩ := h1
  obtain ⟨vs2, b1, b2, b3⟩ := h2
  have n1 : vs1.length = l1.length := by have := a1.1; omega
  exact ⟨vs1, vs2, w.heap.size, owns_below a1 hb (Nat.le_refl _), fun i v xs x y => owns_below (a2 i v xs x y) hb (Nat.le_refl _), a3, fun i v b x y => by
    have hi : i < l1.length := by have := (List.getElem?_eq_some_iff.1 x).1; omega
    exact ((a2 i v _ x (List.getElem?_eq_getElem hi)).lt b y).2, b1, b2, b3, hB⟩

/-- While the two tables are copied and joined: what holds behind the operations that have come up. -/
structure UF (W0 : World) (q : Nat) (sA tA sB : Value) (a b : Lab) (L : Nat → Bool) (v6 v12 v13 v14 v15 v16 v17 v18 v19 v20 v21 v22 v23 : Value) (w : World) : Prop where
  z : Below W0.heap.size W0 w
  f0 : L 0 = true → v12 = .pointer (some ⟨q, 0, none⟩)
  f1 : L 1 = true → v13 = sA
  f2 : L 2 = true → ∃ g k, v14 = .slice (some ⟨g, 0, none⟩) a.shows.length k ∧ (L 6 = false → TRows w W0.heap.size v14 a.shows)
  f3 : L 3 = true → v15 = .pointer (some ⟨q + 1, 0, none⟩)
  f4 : L 4 = true → v16 = sB
  f5 : L 5 = true → ∃ g k, v17 = .slice (some ⟨g, 0, none⟩) b.shows.length k ∧ (L 6 = false → Joinable w W0.heap.size v14 v17 a.shows b.shows)
  f6 : L 6 = true → TRows w W0.heap.size v18 (a.shows ++ b.shows)
  f7 : L 7 = true → ∃ g, v19 = .slice (some ⟨g, 0, none⟩) 0 0 ∧ (L 10 = false → w.ownsRow W0.heap.size 103 3 v19 0 [])
  f8 : L 8 = true → v20 = .pointer (some ⟨q, 1, none⟩)
  f9 : L 9 = true → v21 = tA
  f10 : L 10 = true → w.ownsRow W0.heap.size 103 3 v22 a.steps.length (a.steps.flatMap tri)
  f11 : L 11 = true → v23 = .agg #[v18, v22]
  f12 : L 12 = true → ∃ p, v6 = .pointer (some ⟨p, 0, none⟩) ∧ W0.heap.size ≤ p ∧ (L 13 = false → w.heap[p]? = some (.cells #[.slice none 0 0, .slice none 0 0] 27))
  f13 : L 13 = true → ∃ p, v6 = .pointer (some ⟨p, 0, none⟩) ∧ W0.heap.size ≤ p ∧ w.heap[p]? = some (.cells #[v18, v22] 27)
  e5 : L 5 = true → L 2 = true
  e6 : L 6 = true → L 5 = true
  e11 : L 11 = true → L 6 = true ∧ L 10 = true
  e13 : L 13 = true → L 6 = true ∧ L 10 = true ∧ L 12 = true

theorem UF.below {W0 w w' : World} {q : Nat} {sA tA sB : Value} {a b : Lab} {L : Nat → Bool} {v6 v12 v13 v14 v15 v16 v17 v18 v19 v20 v21 v22 v23 : Value} (h : UF W0 q sA tA sB a b L v6 v12 v13 v14 v15 v16 v17 v18 v19 v20 v21 v22 v23 w) (hb : Below w.heap.size w w') : UF W0 q sA tA sB a b L v6 v12 v13 v14 v15 v16 v17 v18 v19 v20 v21 v22 v23 w' := by
  refine { h with z := h.z.trans (hb.mono h.z.size), f2 := fun x => ?_, f5 := fun x => ?_, f6 := fun x => (h.f6 x).below hb (Nat.le_refl _), f7 := fun x => ?_, f10 := fun x => owns_below (h.f10 x) hb (Nat.le_refl _), f12 := fun x => ?_, f13 := fun x => ?_ }
  · obtain ⟨g, k, e, y⟩ := h.f2 x
    exact ⟨g, k, e, fun z => (y z).below hb (Nat.le_refl _)⟩
  · obtain ⟨g, k, e, y⟩ := h.f5 x
    exact ⟨g, k, e, fun z => (y z).below hb⟩
  · obtain ⟨g, e, y⟩ := h.f7 x
    exact ⟨g, e, fun z => owns_below (y z) hb (Nat.le_refl _)⟩
  · obtain ⟨p, e, hp, y⟩ := h.f12 x
    exact ⟨p, e, hp, fun z => (hb.block p (Array.getElem?_eq_some_iff.1 (y z)).1).trans (y z)⟩
  · obtain ⟨p, e, hp, y⟩ := h.f13 x
    exact ⟨p, e, hp, (hb.block p (Array.getElem?_eq_some_iff.1 y).1).trans y⟩

theorem UF.s0 {W0 w : World} {q : Nat} {sA tA sB r : Value} {a b : Lab} {L : Nat → Bool} {v6 v12 v13 v14 v15 v16 v17 v18 v19 v20 v21 v22 v23 : Value} (h : UF W0 q sA tA sB a b L v6 v12 v13 v14 v15 v16 v17 v18 v19 v20 v21 v22 v23 w) (hl : L 0 = false) (hn : r = .pointer (some ⟨q, 0, none⟩)) : UF W0 q sA tA sB a b (upd L 0) v6 r v13 v14 v15 v16 v17 v18 v19 v20 v21 v22 v23 w := by
  exact { z := h.z, f0 := fun _ => hn, f1 := by simpa [upd] using h.f1, f2 := by simpa [upd] using h.f2, f3 := by simpa [upd] using h.f3, f4 := by simpa [upd] using h.f4, f5 := by simpa [upd] using h.f5, f6 := by simpa [upd] using h.f6, f7 := by simpa [upd] using h.f7, f8 := by simpa [upd] using h.f8, f9 := by simpa [upd] using h.f9, f10 := by simpa [upd] using h.f10, f11 := by simpa [upd] using h.f11, f12 := by simpa [upd] using h.f12, f13 := by simpa [upd] using h.f13, e5 := by simpa [upd] using h.e5, e6 := by simpa [upd] using h.e6, e11 := by simpa [upd] using h.e11, e13 := by simpa [upd] using h.e13 }
theorem UF.s1 {W0 w : World} {q : Nat} {sA tA sB r : Value} {a b : Lab} {L : Nat → Bool} {v6 v12 v13 v14 v15 v16 v17 v18 v19 v20 v21 v22 v23 : Value} (h : UF W0 q sA tA sB a b L v6 v12 v13 v14 v15 v16 v17 v18 v19 v20 v21 v22 v23 w) (hl : L 1 = false) (hn : r = sA) : UF W0 q sA tA sB a b (upd L 1) v6 v12 r v14 v15 v16 v17 v18 v19 v20 v21 v22 v23 w := by
  exact { z := h.z, f0 := by simpa [upd] using h.f0, f1 := fun _ => hn, f2 := by simpa [upd] using h.f2, f3 := by simpa [upd] using h.f3, f4 := by simpa [upd] using h.f4, f5 := by simpa [upd] using h.f5, f6 := by simpa [upd] using h.f6, f7 := by simpa [upd] using h.f7, f8 := by simpa [upd] using h.f8, f9 := by simpa [upd] using h.f9, f10 := by simpa [upd] using h.f10, f11 := by simpa [upd] using h.f11, f12 := by simpa [upd] using h.f12, f13 := by simpa [upd] using h.f13, e5 := by simpa [upd] using h.e5, e6 := by simpa [upd] using h.e6, e11 := by simpa [upd] using h.e11, e13 := by simpa [upd] using h.e13 }
theorem UF.s2 {W0 w : World} {q : Nat} {sA tA sB r : Value} {a b : Lab} {L : Nat → Bool} {v6 v12 v13 v14 v15 v16 v17 v18 v19 v20 v21 v22 v23 : Value} (h : UF W0 q sA tA sB a b L v6 v12 v13 v14 v15 v16 v17 v18 v19 v20 v21 v22 v23 w) (hl : L 2 = false) (hn : ∃ g k, r = .slice (some ⟨g, 0, none⟩) a.shows.length k ∧ TRows w W0.heap.size r a.shows) : UF W0 q sA tA sB a b (upd L 2) v6 v12 v13 r v15 v16 v17 v18 v19 v20 v21 v22 v23 w := by
  have n5 : L 5 = false := by
    cases e : L 5
    · rfl
    · exact absurd (h.e5 e) (by simp [hl])
  exact { z := h.z, f0 := by simpa [upd] using h.f0, f1 := by simpa [upd] using h.f1, f2 := fun _ => by obtain ⟨g, k, e, y⟩ := hn; exact ⟨g, k, e, fun _ => y⟩, f3 := by simpa [upd] using h.f3, f4 := by simpa [upd] using h.f4, f5 := fun x => by simp [upd, n5] at x, f6 := by simpa [upd] using h.f6, f7 := by simpa [upd] using h.f7, f8 := by simpa [upd] using h.f8, f9 := by simpa [upd] using h.f9, f10 := by simpa [upd] using h.f10, f11 := by simpa [upd] using h.f11, f12 := by simpa [upd] using h.f12, f13 := by simpa [upd] using h.f13, e5 := fun x => by simp [upd, n5] at x, e6 := by simpa [upd] using h.e6, e11 := by simpa [upd] using h.e11, e13 := by simpa [upd] using h.e13 }
theorem UF.s3 {W0 w : World} {q : Nat} {sA tA sB r : Value} {a b : Lab} {L : Nat → Bool} {v6 v12 v13 v14 v15 v16 v17 v18 v19 v20 v21 v22 v23 : Value} (h : UF W0 q sA tA sB a b L v6 v12 v13 v14 v15 v16 v17 v18 v19 v20 v21 v22 v23 w) (hl : L 3 = false) (hn : r = .pointer (some ⟨q + 1, 0, none⟩)) : UF W0 q sA tA sB a b (upd L 3) v6 v12 v13 v14 r v16 v17 v18 v19 v20 v21 v22 v23 w := by
  exact { z := h.z, f0 := by simpa [upd] using h.f0, f1 := by simpa [upd] using h.f1, f2 := by simpa [upd] using h.f2, f3 := fun _ => hn, f4 := by simpa [upd] using h.f4, f5 := by simpa [upd] using h.f5, f6 := by simpa [upd] using h.f6, f7 := by simpa [upd] using h.f7, f8 := by simpa [upd] using h.f8, f9 := by simpa [upd] using h.f9, f10 := by simpa [upd] using h.f10, f11 := by simpa [upd] using h.f11, f12 := by simpa [upd] using h.f12, f13 := by simpa [upd] using h.f13, e5 := by simpa [upd] using h.e5, e6 := by simpa [upd] using h.e6, e11 := by simpa [upd] using h.e11, e13 := by simpa [upd] using h.e13 }
theorem UF.s4 {W0 w : World} {q : Nat} {sA tA sB r : Value} {a b : Lab} {L : Nat → Bool} {v6 v12 v13 v14 v15 v16 v17 v18 v19 v20 v21 v22 v23 : Value} (h : UF W0 q sA tA sB a b L v6 v12 v13 v14 v15 v16 v17 v18 v19 v20 v21 v22 v23 w) (hl : L 4 = false) (hn : r = sB) : UF W0 q sA tA sB a b (upd L 4) v6 v12 v13 v14 v15 r v17 v18 v19 v20 v21 v22 v23 w := by
  exact { z := h.z, f0 := by simpa [upd] using h.f0, f1 := by simpa [upd] using h.f1, f2 := by simpa [upd] using h.f2, f3 := by simpa [upd] using h.f3, f4 := fun _ => hn, f5 := by simpa [upd] using h.f5, f6 := by simpa [upd] using h.f6, f7 := by simpa [upd] using h.f7, f8 := by simpa [upd] using h.f8, f9 := by simpa [upd] using h.f9, f10 := by simpa [upd] using h.f10, f11 := by simpa [upd] using h.f11, f12 := by simpa [upd] using h.f12, f13 := by simpa [upd] using h.f13, e5 := by simpa [upd] using h.e5, e6 := by simpa [upd] using h.e6, e11 := by simpa [upd] using h.e11, e13 := by simpa [upd] using h.e13 }
theorem UF.s5 {W0 w : World} {q : Nat} {sA tA sB r : Value} {a b : Lab} {L : Nat → Bool} {v6 v12 v13 v14 v15 v16 v17 v18 v19 v20 v21 v22 v23 : Value} (h : UF W0 q sA tA sB a b L v6 v12 v13 v14 v15 v16 v17 v18 v19 v20 v21 v22 v23 w) (hl : L 5 = false) (hn : (∃ g k, r = .slice (some ⟨g, 0, none⟩) b.shows.length k ∧ Joinable w W0.heap.size v14 r a.shows b.shows) ∧ L 2 = true) : UF W0 q sA tA sB a b (upd L 5) v6 v12 v13 v14 v15 v16 r v18 v19 v20 v21 v22 v23 w := by
  have n6 : L 6 = false := by
    cases e : L 6
    · rfl
    · exact absurd (h.e6 e) (by simp [hl])
  exact { z := h.z, f0 := by simpa [upd] using h.f0, f1 := by simpa [upd] using h.f1, f2 := by simpa [upd] using h.f2, f3 := by simpa [upd] using h.f3, f4 := by simpa [upd] using h.f4, f5 := fun _ => by obtain ⟨⟨g, k, e, y⟩, _⟩ := hn; exact ⟨g, k, e, fun _ => y⟩, f6 := by simpa [upd] using h.f6, f7 := by simpa [upd] using h.f7, f8 := by simpa [upd] using h.f8, f9 := by simpa [upd] using h.f9, f10 := by simpa [upd] using h.f10, f11 := by simpa [upd] using h.f11, f12 := by simpa [upd] using h.f12, f13 := by simpa [upd] using h.f13, e5 := fun _ => by simpa [upd] using hn.2, e6 := fun x => by simp [upd, n6] at x, e11 := by simpa [upd] using h.e11, e13 := by simpa [upd] using h.e13 }
theorem UF.s7 {W0 w : World} {q : Nat} {sA tA sB r : Value} {a b : Lab} {L : Nat → Bool} {v6 v12 v13 v14 v15 v16 v17 v18 v19 v20 v21 v22 v23 : Value} (h : UF W0 q sA tA sB a b L v6 v12 v13 v14 v15 v16 v17 v18 v19 v20 v21 v22 v23 w) (hl : L 7 = false) (hn : ∃ g, r = .slice (some ⟨g, 0, none⟩) 0 0 ∧ w.ownsRow W0.heap.size 103 3 r 0 []) : UF W0 q sA tA sB a b (upd L 7) v6 v12 v13 v14 v15 v16 v17 v18 r v20 v21 v22 v23 w := by
  exact { z := h.z, f0 := by simpa [upd] using h.f0, f1 := by simpa [upd] using h.f1, f2 := by simpa [upd] using h.f2, f3 := by simpa [upd] using h.f3, f4 := by simpa [upd] using h.f4, f5 := by simpa [upd] using h.f5, f6 := by simpa [upd] using h.f6, f7 := fun _ => by obtain ⟨g, e, y⟩ := hn; exact ⟨g, e, fun _ => y⟩, f8 := by simpa [upd] using h.f8, f9 := by simpa [upd] using h.f9, f10 := by simpa [upd] using h.f10, f11 := by simpa [upd] using h.f11, f12 := by simpa [upd] using h.f12, f13 := by simpa [upd] using h.f13, e5 := by simpa [upd] using h.e5, e6 := by simpa [upd] using h.e6, e11 := by simpa [upd] using h.e11, e13 := by simpa [upd] using h.e13 }
theorem UF.s8 {W0 w : World} {q : Nat} {sA tA sB r : Value} {a b : Lab} {L : Nat → Bool} {v6 v12 v13 v14 v15 v16 v17 v18 v19 v20 v21 v22 v23 : Value} (h : UF W0 q sA tA sB a b L v6 v12 v13 v14 v15 v16 v17 v18 v19 v20 v21 v22 v23 w) (hl : L 8 = false) (hn : r = .pointer (some ⟨q, 1, none⟩)) : UF W0 q sA tA sB a b (upd L 8) v6 v12 v13 v14 v15 v16 v17 v18 v19 r v21 v22 v23 w := by
  exact { z := h.z, f0 := by simpa [upd] using h.f0, f1 := by simpa [upd] using h.f1, f2 := by simpa [upd] using h.f2, f3 := by simpa [upd] using h.f3, f4 := by simpa [upd] using h.f4, f5 := by simpa [upd] using h.f5, f6 := by simpa [upd] using h.f6, f7 := by simpa [upd] using h.f7, f8 := fun _ => hn, f9 := by simpa [upd] using h.f9, f10 := by simpa [upd] using h.f10, f11 := by simpa [upd] using h.f11, f12 := by simpa [upd] using h.f12, f13 := by simpa [upd] using h.f13, e5 := by simpa [upd] using h.e5, e6 := by simpa [upd] using h.e6, e11 := by simpa [upd] using h.e11, e13 := by simpa [upd] using h.e13 }
theorem UF.s9 {W0 w : World} {q : Nat} {sA tA sB r : Value} {a b : Lab} {L : Nat → Bool} {v6 v12 v13 v14 v15 v16 v17 v18 v19 v20 v21 v22 v23 : Value} (h : UF W0 q sA tA sB a b L v6 v12 v13 v14 v15 v16 v17 v18 v19 v20 v21 v22 v23 w) (hl : L 9 = false) (hn : r = tA) : UF W0 q sA tA sB a b (upd L 9) v6 v12 v13 v14 v15 v16 v17 v18 v19 v20 r v22 v23 w := by
  exact { z := h.z, f0 := by simpa [upd] using h.f0, f1 := by simpa [upd] using h.f1, f2 := by simpa [upd] using h.f2, f3 := by simpa [upd] using h.f3, f4 := by simpa [upd] using h.f4, f5 := by simpa [upd] using h.f5, f6 := by simpa [upd] using h.f6, f7 := by simpa [upd] using h.f7, f8 := by simpa [upd] using h.f8, f9 := fun _ => hn, f10 := by simpa [upd] using h.f10, f11 := by simpa [upd] using h.f11, f12 := by simpa [upd] using h.f12, f13 := by simpa [upd] using h.f13, e5 := by simpa [upd] using h.e5, e6 := by simpa [upd] using h.e6, e11 := by simpa [upd] using h.e11, e13 := by simpa [upd] using h.e13 }
theorem UF.s11 {W0 w : World} {q : Nat} {sA tA sB r : Value} {a b : Lab} {L : Nat → Bool} {v6 v12 v13 v14 v15 v16 v17 v18 v19 v20 v21 v22 v23 : Value} (h : UF W0 q sA tA sB a b L v6 v12 v13 v14 v15 v16 v17 v18 v19 v20 v21 v22 v23 w) (hl : L 11 = false) (hn : r = .agg #[v18, v22] ∧ L 6 = true ∧ L 10 = true) : UF W0 q sA tA sB a b (upd L 11) v6 v12 v13 v14 v15 v16 v17 v18 v19 v20 v21 v22 r w := by
  exact { z := h.z, f0 := by simpa [upd] using h.f0, f1 := by simpa [upd] using h.f1, f2 := by simpa [upd] using h.f2, f3 := by simpa [upd] using h.f3, f4 := by simpa [upd] using h.f4, f5 := by simpa [upd] using h.f5, f6 := by simpa [upd] using h.f6, f7 := by simpa [upd] using h.f7, f8 := by simpa [upd] using h.f8, f9 := by simpa [upd] using h.f9, f10 := by simpa [upd] using h.f10, f11 := fun _ => hn.1, f12 := by simpa [upd] using h.f12, f13 := by simpa [upd] using h.f13, e5 := by simpa [upd] using h.e5, e6 := by simpa [upd] using h.e6, e11 := fun _ => by simpa [upd] using hn.2, e13 := by simpa [upd] using h.e13 }
theorem UF.s12 {W0 w : World} {q : Nat} {sA tA sB r : Value} {a b : Lab} {L : Nat → Bool} {v6 v12 v13 v14 v15 v16 v17 v18 v19 v20 v21 v22 v23 : Value} (h : UF W0 q sA tA sB a b L v6 v12 v13 v14 v15 v16 v17 v18 v19 v20 v21 v22 v23 w) (hl : L 12 = false) (hn : ∃ p, r = .pointer (some ⟨p, 0, none⟩) ∧ W0.heap.size ≤ p ∧ w.heap[p]? = some (.cells #[.slice none 0 0, .slice none 0 0] 27)) : UF W0 q sA tA sB a b (upd L 12) r v12 v13 v14 v15 v16 v17 v18 v19 v20 v21 v22 v23 w := by
  have n13 : L 13 = false := by
    cases e : L 13
    · rfl
    · exact absurd (h.e13 e).2.2 (by simp [hl])
  exact { z := h.z, f0 := by simpa [upd] using h.f0, f1 := by simpa [upd] using h.f1, f2 := by simpa [upd] using h.f2, f3 := by simpa [upd] using h.f3, f4 := by simpa [upd] using h.f4, f5 := by simpa [upd] using h.f5, f6 := by simpa [upd] using h.f6, f7 := by simpa [upd] using h.f7, f8 := by simpa [upd] using h.f8, f9 := by simpa [upd] using h.f9, f10 := by simpa [upd] using h.f10, f11 := by simpa [upd] using h.f11, f12 := fun _ => by obtain ⟨p, e, hp, y⟩ := hn; exact ⟨p, e, hp, fun _ => y⟩, f13 := fun x => by simp [upd, n13] at x, e5 := by simpa [upd] using h.e5, e6 := by simpa [upd] using h.e6, e11 := by simpa [upd] using h.e11, e13 := fun x => by simp [upd, n13] at x }
theorem UF.s6 {W0 w w1 : World} {q : Nat} {sA tA sB r : Value} {a b : Lab} {L : Nat → Bool} {v6 v12 v13 v14 v15 v16 v17 v18 v19 v20 v21 v22 v23 : Value} {g : Nat} {cs : Array Value} (h : UF W0 q sA tA sB a b L v6 v12 v13 v14 v15 v16 v17 v18 v19 v20 v21 v22 v23 w) (hl : L 6 = false) (h5 : L 5 = true) (hz : Below W0.heap.size W0 w1) (hk : ∀ k, k < w.heap.size → k ≠ g → w1.heap[k]? = w.heap[k]?) (hb : w.heap[g]? = some (.cells cs 30)) (hn : TRows w1 W0.heap.size r (a.shows ++ b.shows)) : UF W0 q sA tA sB a b (upd L 6) v6 v12 v13 v14 v15 v16 v17 r v19 v20 v21 v22 v23 w1 := by
  have n11 : L 11 = false := by
    cases e : L 11
    · rfl
    · exact absurd (h.e11 e).1 (by simp [hl])
  have n13 : L 13 = false := by
    cases e : L 13
    · rfl
    · exact absurd (h.e13 e).1 (by simp [hl])
  exact { z := hz, f0 := by simpa [upd] using h.f0, f1 := by simpa [upd] using h.f1, f2 := fun x => by obtain ⟨g, k, e, y⟩ := h.f2 (by simpa [upd] using x); exact ⟨g, k, e, fun z => by simp [upd] at z⟩, f3 := by simpa [upd] using h.f3, f4 := by simpa [upd] using h.f4, f5 := fun x => by obtain ⟨g, k, e, y⟩ := h.f5 (by simpa [upd] using x); exact ⟨g, k, e, fun z => by simp [upd] at z⟩, f6 := fun _ => hn, f7 := fun x => by obtain ⟨g, e, y⟩ := h.f7 (by simpa [upd] using x); exact ⟨g, e, fun z => owns_but (y (by simpa [upd] using z)) hk hb (by decide)⟩, f8 := by simpa [upd] using h.f8, f9 := by simpa [upd] using h.f9, f10 := fun x => owns_but (h.f10 (by simpa [upd] using x)) hk hb (by decide), f11 := fun x => by simp [upd, n11] at x, f12 := fun x => by obtain ⟨p, e, hp, y⟩ := h.f12 (by simpa [upd] using x); exact ⟨p, e, hp, fun z => heap_but hk hb (y (by simpa [upd] using z)) (by decide)⟩, f13 := fun x => by simp [upd, n13] at x, e5 := by simpa [upd] using h.e5, e6 := fun _ => by simpa [upd] using h5, e11 := fun x => by simp [upd, n11] at x, e13 := fun x => by simp [upd, n13] at x }
theorem UF.s10 {W0 w w1 : World} {q : Nat} {sA tA sB r : Value} {a b : Lab} {L : Nat → Bool} {v6 v12 v13 v14 v15 v16 v17 v18 v19 v20 v21 v22 v23 : Value} {g : Nat} {cs : Array Value} (h : UF W0 q sA tA sB a b L v6 v12 v13 v14 v15 v16 v17 v18 v19 v20 v21 v22 v23 w) (hl : L 10 = false) (hz : Below W0.heap.size W0 w1) (hk : ∀ k, k < w.heap.size → k ≠ g → w1.heap[k]? = w.heap[k]?) (hb : w.heap[g]? = some (.cells cs 103)) (hn : w1.ownsRow W0.heap.size 103 3 r a.steps.length (a.steps.flatMap tri)) : UF W0 q sA tA sB a b (upd L 10) v6 v12 v13 v14 v15 v16 v17 v18 v19 v20 v21 r v23 w1 := by
  have n11 : L 11 = false := by
    cases e : L 11
    · rfl
    · exact absurd (h.e11 e).2 (by simp [hl])
  have n13 : L 13 = false := by
    cases e : L 13
    · rfl
    · exact absurd (h.e13 e).2.1 (by simp [hl])
  exact { z := hz, f0 := by simpa [upd] using h.f0, f1 := by simpa [upd] using h.f1, f2 := fun x => by obtain ⟨g, k, e, y⟩ := h.f2 (by simpa [upd] using x); exact ⟨g, k, e, fun z => (y (by simpa [upd] using z)).but hk hb (by decide) (by decide)⟩, f3 := by simpa [upd] using h.f3, f4 := by simpa [upd] using h.f4, f5 := fun x => by obtain ⟨g, k, e, y⟩ := h.f5 (by simpa [upd] using x); exact ⟨g, k, e, fun z => (y (by simpa [upd] using z)).but hk hb (by decide) (by decide)⟩, f6 := fun x => (h.f6 (by simpa [upd] using x)).but hk hb (by decide) (by decide), f7 := fun x => by obtain ⟨g, e, y⟩ := h.f7 (by simpa [upd] using x); exact ⟨g, e, fun z => by simp [upd] at z⟩, f8 := by simpa [upd] using h.f8, f9 := by simpa [upd] using h.f9, f10 := fun _ => hn, f11 := fun x => by simp [upd, n11] at x, f12 := fun x => by obtain ⟨p, e, hp, y⟩ := h.f12 (by simpa [upd] using x); exact ⟨p, e, hp, fun z => heap_but hk hb (y (by simpa [upd] using z)) (by decide)⟩, f13 := fun x => by simp [upd, n13] at x, e5 := by simpa [upd] using h.e5, e6 := by simpa [upd] using h.e6, e11 := fun x => by simp [upd, n11] at x, e13 := fun x => by simp [upd, n13] at x }
theorem UF.s13 {W0 w w1 : World} {q : Nat} {sA tA sB : Value} {a b : Lab} {L : Nat → Bool} {v6 v12 v13 v14 v15 v16 v17 v18 v19 v20 v21 v22 v23 : Value} {g : Nat} {cs : Array Value} (h : UF W0 q sA tA sB a b L v6 v12 v13 v14 v15 v16 v17 v18 v19 v20 v21 v22 v23 w) (hl : L 13 = false) (hz : Below W0.heap.size W0 w1) (hk : ∀ k, k < w.heap.size → k ≠ g → w1.heap[k]? = w.heap[k]?) (hb : w.heap[g]? = some (.cells cs 27)) (he : L 6 = true ∧ L 10 = true ∧ L 12 = true) (hn : ∃ p, v6 = .pointer (some ⟨p, 0, none⟩) ∧ W0.heap.size ≤ p ∧ w1.heap[p]? = some (.cells #[v18, v22] 27)) : UF W0 q sA tA sB a b (upd L 13) v6 v12 v13 v14 v15 v16 v17 v18 v19 v20 v21 v22 v23 w1 := by
  exact { z := hz, f0 := by simpa [upd] using h.f0, f1 := by simpa [upd] using h.f1, f2 := fun x => by obtain ⟨g, k, e, y⟩ := h.f2 (by simpa [upd] using x); exact ⟨g, k, e, fun z => (y (by simpa [upd] using z)).but hk hb (by decide) (by decide)⟩, f3 := by simpa [upd] using h.f3, f4 := by simpa [upd] using h.f4, f5 := fun x => by obtain ⟨g, k, e, y⟩ := h.f5 (by simpa [upd] using x); exact ⟨g, k, e, fun z => (y (by simpa [upd] using z)).but hk hb (by decide) (by decide)⟩, f6 := fun x => (h.f6 (by simpa [upd] using x)).but hk hb (by decide) (by decide), f7 := fun x => by obtain ⟨g, e, y⟩ := h.f7 (by simpa [upd] using x); exact ⟨g, e, fun z => owns_but (y (by simpa [upd] using z)) hk hb (by decide)⟩, f8 := by simpa [upd] using h.f8, f9 := by simpa [upd] using h.f9, f10 := fun x => owns_but (h.f10 (by simpa [upd] using x)) hk hb (by decide), f11 := by simpa [upd] using h.f11, f12 := fun x => by obtain ⟨p, e, hp, y⟩ := h.f12 (by simpa [upd] using x); exact ⟨p, e, hp, fun z => by simp [upd] at z⟩, f13 := fun _ => hn, e5 := by simpa [upd] using h.e5, e6 := by simpa [upd] using h.e6, e11 := by simpa [upd] using h.e11, e13 := fun _ => by simpa [upd] using he }

end Go.Proofs.YtdgnhfhaaghoaaaGreatDoor
