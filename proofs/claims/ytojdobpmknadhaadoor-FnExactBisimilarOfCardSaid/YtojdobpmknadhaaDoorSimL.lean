/- Labelled systems: simulation. Plain law: taking pairs away until nothing turns leaves one relation, in whatever order. -/
import Derived.Test.YtojdobpmknadhaaDoorLab
set_option linter.unusedVariables false
namespace Go.Proofs.YtojdobpmknadhaaDoor

/-- Each step of s is followed by one of t with the same action, such that the ends are related. -/
def folB (ss : List I3) (s t : Int) (rel : Int → Int → Bool) : Bool :=
  ss.all fun a => !(a.1 == s) || ss.any fun b => (b.1 == t) && (b.2.1 == a.2.1) && rel a.2.2 b.2.2

theorem folB_mono {ss : List I3} {s t : Int} {r q : Int → Int → Bool} (h : ∀ a b, r a b = true → q a b = true) (hf : folB ss s t r = true) : folB ss s t q = true := by
  unfold folB at hf ⊢
  rw [List.all_eq_true] at hf ⊢
  intro a ha
  have := hf a ha
  rw [Bool.or_eq_true] at this ⊢
  rcases this with h1 | h1
  · exact .inl h1
  · right
    rw [List.any_eq_true] at h1 ⊢
    obtain ⟨b, hb, h2⟩ := h1
    rw [Bool.and_eq_true] at h2
    exact ⟨b, hb, by rw [Bool.and_eq_true]; exact ⟨h2.1, h _ _ h2.2⟩⟩

/-- A relation of states, told pair by pair: false beyond n. -/
structure SimR (n : Nat) (ss : List I3) (init r : Int → Int → Bool) : Prop where
  sub : ∀ a b, r a b = true → init a b = true
  great : ∀ c : Int → Int → Bool, (∀ a b, c a b = true → init a b = true) → (∀ a b, c a b = true → folB ss a b c = true) → ∀ a b, c a b = true → r a b = true

def SimStable (ss : List I3) (r : Int → Int → Bool) : Prop := ∀ a b, r a b = true → folB ss a b r = true

theorem sim_unique {n : Nat} {ss : List I3} {init r q : Int → Int → Bool} (hr : SimR n ss init r) (sr : SimStable ss r) (hq : SimR n ss init q) (sq : SimStable ss q) (a b : Int) : r a b = q a b := by
  rw [Bool.eq_iff_iff]
  exact ⟨hq.great r hr.sub sr a b, hr.great q hq.sub sq a b⟩

def dropP (r : Int → Int → Bool) (x y : Int) : Int → Int → Bool := fun a b => r a b && !(a == x && b == y)
theorem sim_drop {n : Nat} {ss : List I3} {init r : Int → Int → Bool} {x y : Int} (h : SimR n ss init r) (hf : folB ss x y r = false) : SimR n ss init (dropP r x y) := by
  refine ⟨fun a b hab => ?_, fun c h1 h2 a b hab => ?_⟩
  · unfold dropP at hab
    rw [Bool.and_eq_true] at hab
    exact h.sub a b hab.1
  · have hr := h.great c h1 h2
    unfold dropP
    rw [Bool.and_eq_true]
    refine ⟨hr a b hab, ?_⟩
    rw [Bool.not_eq_true', Bool.eq_false_iff]
    intro e
    simp only [Bool.and_eq_true, beq_iff_eq] at e
    obtain ⟨rfl, rfl⟩ := e
    have := folB_mono hr (h2 a b hab)
    rw [hf] at this
    cases this
theorem sim_init {n : Nat} {ss : List I3} {init : Int → Int → Bool} : SimR n ss init init := ⟨fun _ _ h => h, fun c h1 _ => h1⟩

end Go.Proofs.YtojdobpmknadhaaDoor
