/- A region that draws its order and writes nothing that is there: told slot by slot, by what each operation gives; the frame is made at the end. No program is in sight. -/
import Derived.Test.YtijkdpdmclkmlaaGreatDoorJ0
set_option linter.unusedSimpArgs false
set_option linter.unusedVariables false
set_option maxRecDepth 100000
set_option maxHeartbeats 16000000
namespace Go.Proofs.YtijkdpdmclkmlaaGreatDoor
open Go.RowKit
def nodupO : List (Option Tmp) → Bool
  | [] => true
  | none :: r => nodupO r
  | some s :: r => !r.contains (some s) && nodupO r
def inO (n : Nat) : List (Option Tmp) → Bool
  | [] => true
  | none :: r => inO n r
  | some s :: r => decide (s < n) && inO n r
def earlyB (ops : Array Oper) : Bool := (List.range ops.size).all fun i => (ops.getD i default).after.toList.all fun e => !Region.binds .any e || decide (e.on < i)
def slotsOk (ops : Array Oper) (slots : List (Option Tmp)) (n : Nat) : Bool := nodupO slots && inO n slots && earlyB ops
/-- The frame with what the operations have given. -/
def layV (V : Nat → Value) : Nat → List (Option Tmp) → Array Value → Array Value
  | _, [], t => t
  | q, none :: r, t => layV V (q + 1) r t
  | q, some s :: r, t => layV V (q + 1) r (t.setIfInBounds s (V q))

theorem nodupO_at : ∀ {l : List (Option Tmp)}, nodupO l = true → ∀ {i j : Nat} {s : Tmp}, l[i]? = some (some s) → l[j]? = some (some s) → i = j
  | [], _, i, j, s, h, _ => by simp at h
  | none :: r, hn, i, j, s, h1, h2 => by
    cases i with
    | zero => simp at h1
    | succ i =>
      cases j with
      | zero => simp at h2
      | succ j => exact congrArg (· + 1) (nodupO_at (l := r) hn (i := i) (j := j) (by simpa using h1) (by simpa using h2))
  | some t :: r, hn, i, j, s, h1, h2 => by
    simp only [nodupO, Bool.and_eq_true, Bool.not_eq_true'] at hn
    have hno : ∀ k, r[k]? = some (some t) → False := fun k hk => by
      have : some t ∈ r := List.mem_of_getElem? hk
      exact absurd this (by simpa using hn.1)
    cases i with
    | zero =>
      cases j with
      | zero => rfl
      | succ j =>
        simp at h1 h2
        subst h1
        exact (hno j h2).elim
    | succ i =>
      cases j with
      | zero =>
        simp at h1 h2
        subst h2
        exact (hno i h1).elim
      | succ j => exact congrArg (· + 1) (nodupO_at (l := r) hn.2 (i := i) (j := j) (by simpa using h1) (by simpa using h2))
theorem inO_at {n : Nat} : ∀ {l : List (Option Tmp)}, inO n l = true → ∀ {i : Nat} {s : Tmp}, l[i]? = some (some s) → s < n
  | [], _, i, s, h => by simp at h
  | none :: r, hn, i, s, h => by
    cases i with
    | zero => simp at h
    | succ i => exact inO_at (l := r) hn (by simpa using h)
  | some t :: r, hn, i, s, h => by
    simp only [inO, Bool.and_eq_true, decide_eq_true_eq] at hn
    cases i with
    | zero => simp at h; subst h; exact hn.1
    | succ i => exact inO_at (l := r) hn.2 (by simpa using h)
theorem layV_out {V : Nat → Value} : ∀ {l : List (Option Tmp)} {q : Nat} {t : Array Value} {s : Tmp}, some s ∉ l → (layV V q l t)[s]? = t[s]?
  | [], _, _, _, _ => rfl
  | none :: r, q, t, s, h => layV_out (l := r) (fun h' => h (List.mem_cons_of_mem _ h'))
  | some u :: r, q, t, s, h => by
    have hne : u ≠ s := fun e => h (by subst e; exact List.mem_cons_self)
    rw [layV, layV_out (l := r) (fun h' => h (List.mem_cons_of_mem _ h')), Array.getElem?_setIfInBounds_ne hne]
theorem layV_in {V : Nat → Value} : ∀ {l : List (Option Tmp)} {q : Nat} {t : Array Value} {i : Nat} {s : Tmp}, nodupO l = true → l[i]? = some (some s) → s < t.size → (layV V q l t)[s]? = some (V (q + i))
  | [], _, _, i, s, _, h, _ => by simp at h
  | none :: r, q, t, i, s, hn, h, hs => by
    cases i with
    | zero => simp at h
    | succ i => rw [layV, layV_in (l := r) (i := i) hn (by simpa using h) hs, show q + 1 + i = q + (i + 1) by omega]
  | some u :: r, q, t, i, s, hn, h, hs => by
    have hn2 := hn
    simp only [nodupO, Bool.and_eq_true, Bool.not_eq_true'] at hn2
    cases i with
    | zero =>
      simp at h
      subst h
      rw [layV, layV_out (l := r) (by simpa using hn2.1), Array.getElem?_setIfInBounds_self_of_lt hs]
      rfl
    | succ i => rw [layV, layV_in (l := r) (i := i) hn2.2 (by simpa using h) (by simpa using hs), show q + 1 + i = q + (i + 1) by omega]

section
variable {P : Program} {Q : Exit → Act → World → Prop} {id : Nat} {ops : Array Oper} {a : Act} {w : World}

structure VJ (ops : Array Oper) (slots : List (Option Tmp)) (a : Act) (w : World) (R : Nat → Value → World → Prop) (L : Nat → Bool) (act : Act) (W : World) : Prop where
  bel : Below w.heap.size w W
  df : act.defers = a.defers
  sz : act.tmps.size = a.tmps.size
  out : ∀ s, some s ∉ slots → act.tmps[s]? = a.tmps[s]?
  has : ∀ q s, L q = true → slots[q]? = some (some s) → ∃ v, act.tmps[s]? = some v ∧ R q v W

/-- What a slot of an operation that has come up holds. -/
theorem VJ.val {slots : List (Option Tmp)} {R : Nat → Value → World → Prop} {L : Nat → Bool} {act : Act} {W : World} {v : Value} (h : VJ ops slots a w R L act W) {q : Nat} {s : Tmp} (hq : L q = true) (hs : slots[q]? = some (some s)) (hv : ∀ u, R q u W → u = v) : act.tmps[s]? = some v := by
  obtain ⟨u, h1, h2⟩ := h.has q s hq hs
  rw [h1, hv u h2]

theorem wp_region_vals (hm : P.follows .mixedOrders = true) (slots : List (Option Tmp)) (R : Nat → Value → World → Prop)
    (hsl : ops.toList.map (·.dst) = slots) (hok : slotsOk ops slots a.tmps.size = true)
    (hR : ∀ q v W W', Below W.heap.size W W' → R q v W → R q v W')
    (step : ∀ (L : Nat → Bool) (act : Act) (W : World) (q : Nat) (o : Oper), VJ ops slots a w R L act W → ops[q]? = some o → (∀ e ∈ o.after, Region.binds .any e = true → L e.on = true) →
      ∀ K' : Act → World → Prop, (∀ v W', Below W.heap.size W W' → R q v W' → K' (act.put o.dst v) W') → if Region.wanted o (yielded ops act.tmps) = true then Oper.wp P o act W K' Q else K' (act.put o.dst undef) W)
    (fin : ∀ (V : Nat → Value) (W : World), Below w.heap.size w W → (∀ q s, slots[q]? = some (some s) → R q (V q) W) → Q .normal ⟨layV V 0 slots a.tmps, a.defers⟩ W) :
    (Code.region id ops true).wp P Q a w := by
  unfold slotsOk at hok
  simp only [Bool.and_eq_true] at hok
  obtain ⟨⟨hnd, hin⟩, hearly⟩ := hok
  have hlen : slots.length = ops.size := by rw [← hsl]; simp
  have hslot : ∀ (q : Nat) (o : Oper), ops[q]? = some o → slots[q]? = some o.dst := fun q o ho => by
    rw [← hsl, List.getElem?_map, Array.getElem?_toList, ho]; rfl
  refine wp_region_inv hm (fun L act W => VJ ops slots a w R L act W) ?_ ?_ ?_
  · exact { bel := (Below.refl _ _).drew, df := rfl, sz := rfl, out := fun _ _ => rfl, has := fun _ _ h => nomatch h }
  · intro L act W q o hJ hL ho hd K' hK'
    refine step L act W q o hJ ho hd K' fun v W' hb hr => hK' _ _ ?_
    have hsq := hslot q o ho
    cases hdst : o.dst with
    | none =>
      rw [hdst] at hsq
      refine { bel := hJ.bel.trans (hb.mono hJ.bel.size), df := hJ.df, sz := hJ.sz, out := hJ.out, has := fun e s he hs => ?_ }
      have hne : e ≠ q := fun h => by subst h; rw [hsq] at hs; cases hs
      obtain ⟨u, h1, h2⟩ := hJ.has e s (by rw [upd_other hne] at he; exact he) hs
      exact ⟨u, h1, hR _ _ _ _ hb h2⟩
    | some d =>
      rw [hdst] at hsq
      have hdz : d < act.tmps.size := by rw [hJ.sz]; exact inO_at hin hsq
      refine { bel := hJ.bel.trans (hb.mono hJ.bel.size), df := hJ.df, sz := by show (act.tmps.setIfInBounds d v).size = _; rw [Array.size_setIfInBounds]; exact hJ.sz, out := fun s hs => ?_, has := fun e s he hs => ?_ }
      · have hne : d ≠ s := fun h => hs (by subst h; exact List.mem_of_getElem? hsq)
        show (act.tmps.setIfInBounds d v)[s]? = _
        rw [Array.getElem?_setIfInBounds_ne hne]
        exact hJ.out s hs
      show ∃ u, (act.tmps.setIfInBounds d v)[s]? = some u ∧ _
      by_cases heq : e = q
      · subst heq
        rw [hsq] at hs
        injection hs with hs
        injection hs with hs
        subst hs
        exact ⟨v, Array.getElem?_setIfInBounds_self_of_lt hdz, hr⟩
      obtain ⟨u, h1, h2⟩ := hJ.has e s (by rw [upd_other heq] at he; exact he) hs
      have hne : d ≠ s := fun h => by subst h; exact heq (nodupO_at hnd hs hsq)
      exact ⟨u, by rw [Array.getElem?_setIfInBounds_ne hne]; exact h1, hR _ _ _ _ hb h2⟩
  intro L act W hJ hfin
  have hall : ∀ n q, q < n → q < ops.size → L q = true := by
    intro n
    induction n with
    | zero => intro q h; omega
    | succ n ih =>
      intro q hq hqs
      cases hl : L q with
      | true => rfl
      | false =>
        obtain ⟨e, he, hb, hon⟩ := hfin q _ (Array.getElem?_eq_getElem hqs) hl
        have h1 := hearly
        unfold earlyB at h1
        rw [List.all_eq_true] at h1
        have h2 := h1 q (List.mem_range.2 hqs)
        rw [List.all_eq_true] at h2
        have h3 := h2 e (by rw [Array.getD_eq_getD_getElem?, Array.getElem?_eq_getElem hqs]; exact Array.mem_toList_iff.2 he)
        rw [hb] at h3
        simp at h3
        rw [ih e.on (by omega) (by omega)] at hon
        cases hon
  have hall' : ∀ q, q < ops.size → L q = true := fun q hq => hall (q + 1) q (Nat.lt_succ_self _) hq
  have hlt : ∀ {q s}, slots[q]? = some (some s) → q < ops.size := fun {q s} h => by
    have := (List.getElem?_eq_some_iff.1 h).1
    omega
  let V : Nat → Value := fun q => match slots[q]? with
    | some (some s) => act.tmps[s]?.getD undef
    | _ => undef
  have hV : ∀ q s, slots[q]? = some (some s) → act.tmps[s]? = some (V q) ∧ R q (V q) W := fun q s hs => by
    obtain ⟨v, h1, h2⟩ := hJ.has q s (hall' q (hlt hs)) hs
    have e : V q = v := by
      show (match slots[q]? with | some (some s) => act.tmps[s]?.getD undef | _ => undef) = v
      rw [hs]
      show act.tmps[s]?.getD undef = v
      rw [h1]
      rfl
    rw [e]
    exact ⟨h1, h2⟩
  have hact : act = ⟨layV V 0 slots a.tmps, a.defers⟩ := by
    have ht : act.tmps = layV V 0 slots a.tmps := by
      apply Array.ext_getElem?
      intro s
      by_cases hs : some s ∈ slots
      · obtain ⟨q, hq, e⟩ := List.getElem_of_mem hs
        have hqs : slots[q]? = some (some s) := by rw [List.getElem?_eq_getElem hq, e]
        rw [(hV q s hqs).1, layV_in hnd hqs (inO_at hin hqs), Nat.zero_add]
      rw [hJ.out s hs, layV_out hs]
    show (⟨act.tmps, act.defers⟩ : Act) = _
    rw [hJ.df]
    exact congrArg (fun t => (⟨t, a.defers⟩ : Act)) ht
  rw [hact]
  exact fin V W hJ.bel fun q s hs => (hV q s hs).2
end

end Go.Proofs.YtijkdpdmclkmlaaGreatDoor
