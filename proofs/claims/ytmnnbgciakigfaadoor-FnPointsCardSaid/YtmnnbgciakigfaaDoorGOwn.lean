/- Rows of one's own: what keeps them apart. No program is in sight. -/
import Derived.Test.YtmnnbgciakigfaaDoorOwn
import Derived.Test.YtmnnbgciakigfaaDoorApp
set_option linter.unusedVariables false
namespace Go.Proofs.YtmnnbgciakigfaaDoor
open Go.RowKit

section
variable {w w' : World} {B B1 B2 : Nat} {e e1 e2 : TypeId} {s s1 s2 : Nat} {v v1 v2 : Value} {n n1 n2 : Nat} {xs xs1 xs2 : List Value}
theorem ownsK {S : Nat → Prop} (h : w.ownsRow B e s v n xs) (hk : Kept S w w') (hd : ∀ g, v.ownBlock = some g → ¬ S g) : w'.ownsRow B e s v n xs := by
  refine ⟨h.1, ?_⟩
  rcases h.2 with hn | ⟨g, cap, cur, rfl, hbg, hg, rest⟩
  · exact .inl hn
  · have := (Array.getElem?_eq_some_iff.1 hg).1
    exact .inr ⟨g, cap, cur, rfl, hbg, by rw [hk.block g this (hd g rfl)]; exact hg, rest⟩
theorem ownsA (h1 : w.ownsRow B1 e1 s1 v1 n1 xs1) (h2 : w.ownsRow B2 e2 s2 v2 n2 xs2) (he : e1 ≠ e2) (g : Nat) (hg : v1.ownBlock = some g) : v2.ownBlock ≠ some g := by
  intro hg2
  rcases h1.2 with ⟨rfl, _⟩ | ⟨g1, _, _, rfl, _, a1, _⟩
  · simp [Value.ownBlock] at hg
  · rcases h2.2 with ⟨rfl, _⟩ | ⟨g2, _, _, rfl, _, a2, _⟩
    · simp [Value.ownBlock] at hg2
    · simp only [Value.ownBlock, Option.some.injEq] at hg hg2
      subst hg
      subst hg2
      rw [a1] at a2
      injection a2 with a2
      injection a2 with _ a2 _
      exact he a2
theorem ownsT {b : Nat} {cs : Array Value} {t : TypeId} (h : w.ownsRow B e s v n xs) (hb : w.heap[b]? = some (.cells cs t)) (hne : e ≠ t) : v.ownBlock ≠ some b := by
  intro hv
  rcases h.2 with ⟨rfl, _⟩ | ⟨g, _, _, rfl, _, a, _⟩
  · simp [Value.ownBlock] at hv
  · simp only [Value.ownBlock, Option.some.injEq] at hv
    subst hv
    rw [hb] at a
    injection a with a
    injection a with _ a _
    exact hne a.symm
theorem ownsM {B' : Nat} (h : w.ownsRow B e s v n xs) (hb : B' ≤ B) : w.ownsRow B' e s v n xs := owns_mono h hb
/-- A slice of a row, from its beginning on. -/
theorem ownsTake {A : Option Addr} {c m : Nat} (h : w.ownsRow B e s (.slice A n c) n xs) (hm : m ≤ n) : w.ownsRow B e s (.slice A m c) m (xs.take (m * s)) := by
  obtain ⟨h1, h2⟩ := h
  have hms : m * s ≤ n * s := Nat.mul_le_mul_right _ hm
  rcases h2 with ⟨e2, hn⟩ | ⟨g, cap, cur, e2, hb, hg, hc, hcap, hl, ht⟩
  · cases hn
    cases e2
    obtain rfl : m = 0 := by omega
    refine ⟨by simp, .inl ⟨rfl, rfl⟩⟩
  · cases e2
    refine ⟨by rw [List.length_take, h1]; omega, .inr ⟨g, c, cur, rfl, hb, hg, by omega, hcap, hl, ?_⟩⟩
    rw [← ht, List.take_take, Nat.min_eq_left hms]
/-- A row laid as it is. -/
theorem ownsNew (w : World) (cs : List Value) (e : TypeId) (s n : Nat) (hl : cs.length = n * s) (hn : n ≤ maxLen) : (w.alloc (.cells cs.toArray e)).ownsRow w.heap.size e s (.slice (some ⟨w.heap.size, 0, none⟩) n n) n cs :=
  ⟨hl, .inr ⟨w.heap.size, n, cs.toArray, rfl, Nat.le_refl _, heap_alloc_new _ _, Nat.le_refl _, hn, by simpa using hl, by rw [← hl]; simp⟩⟩

end

end Go.Proofs.YtmnnbgciakigfaaDoor
