/- A region that draws its order and holds several rows of its own at once, told slot by slot as in XRegW: each slot has the set F of blocks that it holds; an append takes over the blocks of the slot it appends to. No program is in sight. -/
import Derived.Test.YtijkdpdmclkmlaaGreatDoorJ33
import Derived.Test.YtijkdpdmclkmlaaGreatDoorJ9
set_option linter.unusedSimpArgs false
set_option linter.unusedVariables false
set_option maxRecDepth 100000
set_option maxHeartbeats 16000000
namespace Go.Proofs.YtijkdpdmclkmlaaGreatDoor
open Go.RowKit
/-- The blocks of what operation q takes over. -/
def srcF (src : Nat → List Nat) (F : Nat → Nat → Prop) (q b : Nat) : Prop := ∃ s, s ∈ src q ∧ F s b
/-- What q's slot holds then: what it takes over, and what is new. -/
def newF (src : Nat → List Nat) (F : Nat → Nat → Prop) (q : Nat) (W W' : World) (b : Nat) : Prop := srcF src F q b ∨ (W.heap.size ≤ b ∧ b < W'.heap.size)
/-- Nobody has taken s over. -/
def aliveL (n : Nat) (src : Nat → List Nat) (L : Nat → Bool) (s : Nat) : Prop := ∀ c, c < n → s ∈ src c → L c = false
def srcOk (ops : Array Oper) (src : Nat → List Nat) : Bool := (List.range ops.size).all fun q => (src q).all fun s => waitsB (ops.getD q default) s && decide (s < ops.size) && (List.range ops.size).all fun c => c == q || !(src c).contains s
/-- Somebody who need not come after q (or be q) takes i over. -/
def takenB (ops : Array Oper) (src : Nat → List Nat) (i q : Nat) : Bool := (List.range ops.size).any fun c => (src c).contains i && !reachB ops ops.size c q
def finalB (n : Nat) (src : Nat → List Nat) (i : Nat) : Bool := (List.range n).all fun c => !(src c).contains i

section
variable {P : Program} {Q : Exit → Act → World → Prop} {id : Nat} {ops : Array Oper} {a : Act} {w : World} {slots : List (Option Tmp)} {eff : List Nat} {src : Nat → List Nat} {R : Nat → Value → (Nat → Prop) → World → Prop} {D : List Bool → World → Prop} {F : Nat → Nat → Prop} {L : Nat → Bool} {act : Act} {W : World} {q : Nat} {o : Oper}

structure YJ (n : Nat) (slots : List (Option Tmp)) (a : Act) (w : World) (R : Nat → Value → (Nat → Prop) → World → Prop) (src : Nat → List Nat) (eff : List Nat) (D : List Bool → World → Prop) (F : Nat → Nat → Prop) (L : Nat → Bool) (act : Act) (W : World) : Prop where
  size : w.heap.size ≤ W.heap.size
  df : act.defers = a.defers
  sz : act.tmps.size = a.tmps.size
  out : ∀ s, some s ∉ slots → act.tmps[s]? = a.tmps[s]?
  old : ∀ i s, slots[i]? = some (some s) → L i = false → act.tmps[s]? = a.tmps[s]?
  has : ∀ q s, L q = true → slots[q]? = some (some s) → aliveL n src L q → ∃ v, act.tmps[s]? = some v ∧ R q v (F q) W
  fl : ∀ i b, L i = true → F i b → w.heap.size ≤ b ∧ b < W.heap.size
  dj : ∀ i j b, L i = true → L j = true → aliveL n src L i → aliveL n src L j → i ≠ j → F i b → F j b → False
  d : D (eff.map L) W

/-- What an operation finds. -/
structure YS (ops : Array Oper) (slots : List (Option Tmp)) (a : Act) (w : World) (R : Nat → Value → (Nat → Prop) → World → Prop) (src : Nat → List Nat) (eff : List Nat) (D : List Bool → World → Prop) (F : Nat → Nat → Prop) (L : Nat → Bool) (act : Act) (W : World) (q : Nat) (o : Oper) : Prop where
  size : w.heap.size ≤ W.heap.size
  out : ∀ s, some s ∉ slots → act.tmps[s]? = a.tmps[s]?
  on : ∀ i, waitsB o i = true → L i = true
  off : ∀ i, (decide (i < ops.size) && reachB ops ops.size i q) = true → L i = false
  old : ∀ i {s}, slots[i]? = some (some s) → L i = false → act.tmps[s]? = a.tmps[s]?
  has : ∀ i {s}, waitsB o i = true → takenB ops src i q = false → slots[i]? = some (some s) → ∃ v, act.tmps[s]? = some v ∧ R i v (F i) W
  fl : ∀ i b, waitsB o i = true → F i b → w.heap.size ≤ b ∧ b < W.heap.size
  dj : ∀ i j b, waitsB o i = true → waitsB o j = true → takenB ops src i q = false → takenB ops src j q = false → (i == j) = false → F i b → F j b → False
  d : D (eff.map L) W
theorem YS.val (h : YS ops slots a w R src eff D F L act W q o) (i : Nat) {s : Tmp} {z : Value} (hi : waitsB o i = true) (ht : takenB ops src i q = false) (hs : slots[i]? = some (some s)) (hz : ∀ u, R i u (F i) W → u = z) : act.tmps[s]? = some z := by
  obtain ⟨u, h1, h2⟩ := h.has i hi ht hs
  rw [h1, hz u h2]

theorem wp_region_y (hm : P.follows .mixedOrders = true) (slots : List (Option Tmp)) (eff : List Nat) (src : Nat → List Nat) (R : Nat → Value → (Nat → Prop) → World → Prop) (D : List Bool → World → Prop)
    (hsl : ops.toList.map (·.dst) = slots) (hok : slotsOk ops slots a.tmps.size = true) (hso : srcOk ops src = true)
    (hR : ∀ (T F : Nat → Prop) i v W W', Kept T W W' → (∀ b, T b → ¬ F b) → R i v F W → R i v F W') (hD : ∀ (L : Nat → Bool) q W W', q < ops.size → eff.contains q = false → (∀ i, (decide (i < ops.size) && reachB ops ops.size i q) = true → L i = false) → w.heap.size ≤ W.heap.size → Kept (fun b => w.heap.size ≤ b) W W' → D (eff.map L) W → D (eff.map L) W') (h0 : D (eff.map fun _ => false) w.drew)
    (step : ∀ (F : Nat → Nat → Prop) (L : Nat → Bool) (act : Act) (W : World) (q : Nat) (o : Oper), YS ops slots a w R src eff D F L act W q o → ops[q]? = some o →
      ∀ K' : Act → World → Prop, (eff.contains q = false → ∀ v W', Kept (srcF src F q) W W' → R q v (newF src F q W W') W' → K' (act.put o.dst v) W') →
        (∀ v W', Kept (fun b => b < w.heap.size ∨ srcF src F q b) W W' → R q v (newF src F q W W') W' → D (eff.map (upd L q)) W' → K' (act.put o.dst v) W') →
        if Region.wanted o (yielded ops act.tmps) = true then Oper.wp P o act W K' Q else K' (act.put o.dst undef) W)
    (fin : ∀ (V : Nat → Value) (F : Nat → Nat → Prop) (W : World), w.heap.size ≤ W.heap.size → D (eff.map fun q => decide (q < ops.size)) W → (∀ q {s}, slots[q]? = some (some s) → finalB ops.size src q = true → R q (V q) (F q) W) →
      (∀ q b, q < ops.size → F q b → w.heap.size ≤ b ∧ b < W.heap.size) → (∀ i j b, (decide (i < ops.size) && decide (j < ops.size) && finalB ops.size src i && finalB ops.size src j && !(i == j)) = true → F i b → F j b → False) → Q .normal ⟨layV V 0 slots a.tmps, a.defers⟩ W) :
    (Code.region id ops true).wp P Q a w := by
  have hok2 := hok
  unfold slotsOk at hok
  simp only [Bool.and_eq_true] at hok
  obtain ⟨⟨hnd, hin⟩, hearly⟩ := hok
  have hlen : slots.length = ops.size := by rw [← hsl]; simp
  have hslot : ∀ (q : Nat) (o : Oper), ops[q]? = some o → slots[q]? = some o.dst := fun q o ho => by
    rw [← hsl, List.getElem?_map, Array.getElem?_toList, ho]; rfl
  have hear : ∀ (k : Nat) (o : Oper), ops[k]? = some o → ∀ e ∈ o.after, Region.binds .any e = true → e.on < k := fun k o ho e he hb => by
    have hk := (Array.getElem?_eq_some_iff.1 ho).1
    have h1 := hearly
    unfold earlyB at h1
    rw [List.all_eq_true] at h1
    have h2 := h1 k (List.mem_range.2 hk)
    rw [List.all_eq_true] at h2
    have h3 := h2 e (by rw [Array.getD_eq_getD_getElem?, ho]; exact Array.mem_toList_iff.2 he)
    rw [hb] at h3
    simpa using h3
  have hbnd : ∀ (k : Nat) (o : Oper), ops[k]? = some o → ∀ e ∈ o.after, Region.binds .any e = true → e.on < ops.size := fun k o ho e he hb => by
    have := hear k o ho e he hb
    have := (Array.getElem?_eq_some_iff.1 ho).1
    omega
  have hsrc : ∀ q o s, ops[q]? = some o → s ∈ src q → waitsB o s = true ∧ s < ops.size ∧ ∀ c, c < ops.size → s ∈ src c → c = q := fun q o s ho hs => by
    have hk := (Array.getElem?_eq_some_iff.1 ho).1
    have h1 := hso
    unfold srcOk at h1
    rw [List.all_eq_true] at h1
    have h2 := h1 q (List.mem_range.2 hk)
    rw [List.all_eq_true] at h2
    have h3 := h2 s hs
    rw [Array.getD_eq_getD_getElem?, ho] at h3
    simp only [Option.getD_some, Bool.and_eq_true, decide_eq_true_eq] at h3
    refine ⟨h3.1.1, h3.1.2, fun c hc hm => ?_⟩
    have h4 := h3.2
    rw [List.all_eq_true] at h4
    have h5 := h4 c (List.mem_range.2 hc)
    have h6 : (src c).contains s = true := List.contains_iff_mem.2 hm
    rw [h6] at h5
    simpa using h5
  refine wp_region_dc hm (fun L act W => (∀ q, L q = true → q < ops.size) ∧ ∃ F, YJ ops.size slots a w R src eff D F L act W) ?_ ?_ ?_
  · exact ⟨fun _ h => (nomatch h), fun _ _ => False, { size := Nat.le_refl _, df := rfl, sz := rfl, out := fun _ _ => rfl, old := fun _ _ _ _ => rfl, has := fun _ _ h => (nomatch h), fl := fun _ _ h => (nomatch h), dj := fun _ _ _ h => (nomatch h), d := h0 }⟩
  · intro L act W q o hJ2 hC hL ho hd K' hK'
    obtain ⟨hLs, F, hJ⟩ := hJ2
    have hqs : q < ops.size := (Array.getElem?_eq_some_iff.1 ho).1
    have hon : ∀ i, waitsB o i = true → L i = true := fun i hi => by
      obtain ⟨e, he, hb⟩ := List.any_eq_true.1 hi
      simp only [Bool.and_eq_true, beq_iff_eq] at hb
      rw [← hb.2]
      exact hd e (Array.mem_toList_iff.1 he) hb.1
    have hoff : ∀ i, (decide (i < ops.size) && reachB ops ops.size i q) = true → L i = false := fun i hi => by
      simp only [Bool.and_eq_true, decide_eq_true_eq] at hi
      cases h : L i
      · rfl
      rw [dc_reach hC _ i q hi.1 hbnd h hi.2] at hL; cases hL
    have hsq := hslot q o ho
    have hlu : ∀ x, upd L q x = true → x < ops.size := fun x hx => by
      by_cases h : x = q
      · rw [h]; exact hqs
      rw [upd_other h] at hx; exact hLs x hx
    have hal : ∀ i, takenB ops src i q = false → aliveL ops.size src L i := fun i ht c hc hm => by
      unfold takenB at ht
      rw [List.any_eq_false] at ht
      have h1 := ht c (List.mem_range.2 hc)
      rw [show (src c).contains i = true from List.contains_iff_mem.2 hm] at h1
      exact hoff c (by simpa [hc] using h1)
    have hsal : ∀ s, s ∈ src q → L s = true ∧ aliveL ops.size src L s := fun s hs => by
      obtain ⟨h1, _, h2⟩ := hsrc q o s ho hs
      exact ⟨hon s h1, fun c hc hm => by rw [h2 c hc hm]; exact hL⟩
    have hpre : ∀ i, i ≠ q → aliveL ops.size src (upd L q) i → i ∉ src q ∧ aliveL ops.size src L i := fun i hi ha => by
      refine ⟨fun hm => absurd (ha q hqs hm) (by rw [upd_same]; simp), fun c hc hm => ?_⟩
      have h1 := ha c hc hm
      by_cases h : c = q
      · subst h; rw [upd_same] at h1; cases h1
      rwa [upd_other h] at h1
    have hsf : ∀ i, i ≠ q → L i = true → aliveL ops.size src (upd L q) i → ∀ b, srcF src F q b → ¬ F i b := fun i hi hLi ha b hb hf => by
      obtain ⟨s, hs, hb⟩ := hb
      obtain ⟨h1, h2⟩ := hpre i hi ha
      obtain ⟨h3, h4⟩ := hsal s hs
      exact hJ.dj i s b hLi h3 h2 h4 (fun e => h1 (e ▸ hs)) hf hb
    have hsN : ∀ b, srcF src F q b → w.heap.size ≤ b ∧ b < W.heap.size := fun b hb => by
      obtain ⟨s, hs, hb⟩ := hb
      exact hJ.fl s b (hsal s hs).1 hb
    have go : ∀ v W', Kept (fun b => b < w.heap.size ∨ srcF src F q b) W W' → R q v (newF src F q W W') W' → D (eff.map (upd L q)) W' → K' (act.put o.dst v) W' := fun v W' hb hr hd' => by
      have hwz := hb.size
      have hsz := Nat.le_trans hJ.size hwz
      obtain ⟨F', hF'⟩ : ∃ F', F' = fun i b => if i = q then newF src F q W W' b else F i b := ⟨_, rfl⟩
      have hFq : F' q = newF src F q W W' := by rw [hF']; funext b; simp
      have hFo : ∀ i, i ≠ q → F' i = F i := fun i hi => by rw [hF']; funext b; simp [hi]
      have hfl : ∀ i b, upd L q i = true → F' i b → w.heap.size ≤ b ∧ b < W'.heap.size := fun i b hi hf => by
        by_cases h : i = q
        · subst h
          rw [hFq] at hf
          rcases hf with hf | hf
          · have := hsN b hf; omega
          have := hJ.size; omega
        rw [hFo i h] at hf
        rw [upd_other h] at hi
        have := hJ.fl i b hi hf
        omega
      have hdq : ∀ j b, j ≠ q → upd L q j = true → aliveL ops.size src (upd L q) j → F' q b → F' j b → False := fun j b hj hLj ha hf hg => by
        rw [upd_other hj] at hLj
        rw [hFq] at hf
        rw [hFo j hj] at hg
        rcases hf with hf | hf
        · exact hsf j hj hLj ha b hf hg
        have := hJ.fl j b hLj hg; omega
      have hdj : ∀ i j b, upd L q i = true → upd L q j = true → aliveL ops.size src (upd L q) i → aliveL ops.size src (upd L q) j → i ≠ j → F' i b → F' j b → False := fun i j b hi hj hai haj hne hf hg => by
        by_cases h : i = q
        · subst h; exact hdq j b (fun e => hne e.symm) hj haj hf hg
        by_cases h2 : j = q
        · subst h2; exact hdq i b h hi hai hg hf
        rw [hFo i h] at hf
        rw [hFo j h2] at hg
        rw [upd_other h] at hi
        rw [upd_other h2] at hj
        exact hJ.dj i j b hi hj (hpre i h hai).2 (hpre j h2 haj).2 hne hf hg
      have hkeep : ∀ i v, i ≠ q → L i = true → aliveL ops.size src (upd L q) i → R i v (F i) W → R i v (F' i) W' := fun i v hi hLi ha hr => by
        rw [hFo i hi]
        refine hR _ _ _ _ _ _ hb (fun b ht hf => ?_) hr
        rcases ht with ht | ht
        · have := hJ.fl i b hLi hf; omega
        exact hsf i hi hLi ha b ht hf
      refine hK' _ _ ⟨hlu, F', ?_⟩
      cases hdst : o.dst with
      | none =>
        rw [hdst] at hsq
        refine { size := hsz, df := hJ.df, sz := hJ.sz, out := hJ.out, old := fun i s hs hi => hJ.old i s hs (by by_cases h : i = q; (subst h; rw [upd_same] at hi; cases hi); rwa [upd_other h] at hi), has := fun e s he hs ha => ?_, fl := hfl, dj := hdj, d := hd' }
        have hne : e ≠ q := fun h => by subst h; rw [hsq] at hs; cases hs
        rw [upd_other hne] at he
        obtain ⟨u, h1, h2⟩ := hJ.has e s he hs (hpre e hne ha).2
        exact ⟨u, h1, hkeep e u hne he ha h2⟩
      | some d =>
        rw [hdst] at hsq
        have hdz : d < act.tmps.size := by rw [hJ.sz]; exact inO_at hin hsq
        refine { size := hsz, df := hJ.df, sz := by show (act.tmps.setIfInBounds d v).size = _; rw [Array.size_setIfInBounds]; exact hJ.sz, out := fun s hs => ?_, old := fun i s hs hi => ?_, has := fun e s he hs ha => ?_, fl := hfl, dj := hdj, d := hd' }
        · have hne : d ≠ s := fun h => hs (by subst h; exact List.mem_of_getElem? hsq)
          show (act.tmps.setIfInBounds d v)[s]? = _
          rw [Array.getElem?_setIfInBounds_ne hne]
          exact hJ.out s hs
        · have hiq : i ≠ q := fun h => by subst h; rw [upd_same] at hi; cases hi
          have hne : d ≠ s := fun h => by subst h; exact hiq (nodupO_at hnd hs hsq)
          show (act.tmps.setIfInBounds d v)[s]? = _
          rw [Array.getElem?_setIfInBounds_ne hne]
          exact hJ.old i s hs (by rwa [upd_other hiq] at hi)
        show ∃ u, (act.tmps.setIfInBounds d v)[s]? = some u ∧ _
        by_cases heq : e = q
        · subst heq
          rw [hsq] at hs
          injection hs with hs
          injection hs with hs
          subst hs
          exact ⟨v, Array.getElem?_setIfInBounds_self_of_lt hdz, by rw [hFq]; exact hr⟩
        rw [upd_other heq] at he
        obtain ⟨u, h1, h2⟩ := hJ.has e s he hs (hpre e heq ha).2
        have hne : d ≠ s := fun h => by subst h; exact heq (nodupO_at hnd hs hsq)
        exact ⟨u, by rw [Array.getElem?_setIfInBounds_ne hne]; exact h1, hkeep e u heq he ha h2⟩
    refine step F L act W q o { size := hJ.size, out := hJ.out, old := fun i s hs hi => hJ.old i s hs hi, on := hon, off := hoff, has := fun i s hi ht hs => hJ.has i s (hon i hi) hs (hal i ht), fl := fun i b hi hf => hJ.fl i b (hon i hi) hf, dj := fun i j b hi hj ti tj hne => hJ.dj i j b (hon i hi) (hon j hj) (hal i ti) (hal j tj) (by simpa using hne), d := hJ.d } ho K' (fun he v W' hb hr => go v W' (hb.mono fun b hb => .inr hb) hr ?_) go
    rw [upd_map he]
    exact hD L q _ _ hqs he hoff hJ.size (hb.mono fun b hb => (hsN b hb).1) hJ.d
  intro L act W hJ2 hfin
  obtain ⟨hLs, F, hJ⟩ := hJ2
  have hall : ∀ n q, q < n → q < ops.size → L q = true := by
    intro n
    induction n with
    | zero => intro q h; omega
    | succ n ih =>
      intro q hq hqs
      cases hl : L q with
      | true => rfl
      | false =>
        obtain ⟨e, he, hb, hon⟩ := hfin q _ (Array.getElem?_eq_getElem hqs) hl
        have h3 := hear q _ (Array.getElem?_eq_getElem hqs) e he hb
        rw [ih e.on (by omega) (by omega)] at hon
        cases hon
  have hall' : ∀ q, q < ops.size → L q = true := fun q hq => hall (q + 1) q (Nat.lt_succ_self _) hq
  have hlt : ∀ {q s}, slots[q]? = some (some s) → q < ops.size := fun {q s} h => by
    have := (List.getElem?_eq_some_iff.1 h).1
    omega
  have hla : ∀ i, finalB ops.size src i = true → aliveL ops.size src L i := fun i hi c hc hm => by
    unfold finalB at hi
    rw [List.all_eq_true] at hi
    have h1 := hi c (List.mem_range.2 hc)
    rw [show (src c).contains i = true from List.contains_iff_mem.2 hm] at h1
    cases h1
  let V : Nat → Value := fun q => match slots[q]? with
    | some (some s) => act.tmps[s]?.getD undef
    | _ => undef
  have hV1 : ∀ q s, slots[q]? = some (some s) → V q = act.tmps[s]?.getD undef := fun q s hs => by
    show (match slots[q]? with | some (some s) => act.tmps[s]?.getD undef | _ => undef) = _
    rw [hs]
  have hV : ∀ q {s}, slots[q]? = some (some s) → finalB ops.size src q = true → R q (V q) (F q) W := fun q s hs hl => by
    obtain ⟨v, h1, h2⟩ := hJ.has q s (hall' q (hlt hs)) hs (hla q hl)
    rw [hV1 q s hs, h1]
    exact h2
  have hact : act = ⟨layV V 0 slots a.tmps, a.defers⟩ := by
    have ht : act.tmps = layV V 0 slots a.tmps := by
      apply Array.ext_getElem?
      intro s
      by_cases hs : some s ∈ slots
      · obtain ⟨q, hq, e⟩ := List.getElem_of_mem hs
        have hqs : slots[q]? = some (some s) := by rw [List.getElem?_eq_getElem hq, e]
        have hsz : s < a.tmps.size := inO_at hin hqs
        rw [layV_in hnd hqs hsz, Nat.zero_add, hV1 q s hqs]
        have hs2 : s < act.tmps.size := by rw [hJ.sz]; exact hsz
        rw [Array.getElem?_eq_getElem hs2]
        rfl
      rw [hJ.out s hs, layV_out hs]
    show (⟨act.tmps, act.defers⟩ : Act) = _
    rw [hJ.df]
    exact congrArg (fun t => (⟨t, a.defers⟩ : Act)) ht
  have hLeq : (eff.map fun q => decide (q < ops.size)) = eff.map L := List.map_congr_left fun q _ => by
    by_cases h : q < ops.size
    · rw [hall' q h]; simp [h]
    cases hl : L q
    · simp [h]
    exact absurd (hLs q hl) h
  rw [hact]
  exact fin V F W hJ.size (by rw [hLeq]; exact hJ.d) hV (fun q b hq hf => hJ.fl q b (hall' q hq) hf) fun i j b h hf hg => by
    simp only [Bool.and_eq_true, decide_eq_true_eq, Bool.not_eq_true', beq_eq_false_iff_ne] at h
    exact hJ.dj i j b (hall' i h.1.1.1.1) (hall' j h.1.1.1.2) (hla i h.1.1.2) (hla j h.1.2) h.2 hf hg
end

/-- Operation z comes last. -/
def lastOp (ops : Array Oper) (z : Nat) : Bool := decide (z < ops.size) && (List.range ops.size).all fun q => q == z || reachB ops ops.size z q
theorem below_more {w W W' : World} (h : Below w.heap.size w W) (hk : Kept (fun b => w.heap.size ≤ b) W W') : Below w.heap.size w W' := h.trans (hk.below (fun _ h => h) h.size)
theorem keepD_last {ops : Array Oper} {z : Nat} {w : World} {Z : World → Prop} (hl : lastOp ops z = true) (L : Nat → Bool) (q : Nat) (W W' : World) (hq : q < ops.size) (he : [z].contains q = false) (hc : ∀ i, (decide (i < ops.size) && reachB ops ops.size i q) = true → L i = false) (hs : w.heap.size ≤ W.heap.size) (hk : Kept (fun b => w.heap.size ≤ b) W W')
    (h : match [z].map L with | [false] => Below w.heap.size w W | _ => Z W) : match [z].map L with | [false] => Below w.heap.size w W' | _ => Z W' := by
  unfold lastOp at hl
  simp only [Bool.and_eq_true, List.all_eq_true] at hl
  have h1 := hl.2 q (List.mem_range.2 hq)
  have hne : q ≠ z := fun e => by subst e; simp at he
  have h2 : reachB ops ops.size z q = true := by
    rw [show (q == z) = false from by simp [hne], Bool.false_or] at h1; exact h1
  have h3 := hc z (by rw [h2, Bool.and_true]; exact hl.1)
  simp only [List.map_cons, List.map_nil, h3] at h ⊢
  exact below_more h hk

/-- An own row whose block is among F. -/
def OwnF (W : World) (N : Nat) (F : Nat → Prop) (e : TypeId) (sz : Nat) (v : Value) (n : Nat) (xs : List Value) : Prop := W.ownsRow N e sz v n xs ∧ ∀ b, v.ownBlock = some b → F b
theorem OwnF.kept {W W' : World} {N : Nat} {T F : Nat → Prop} {e : TypeId} {sz n : Nat} {v : Value} {xs : List Value} (h : OwnF W N F e sz v n xs) (hk : Kept T W W') (hT : ∀ b, T b → ¬ F b) : OwnF W' N F e sz v n xs :=
  ⟨ownsK h.1 hk (fun b hb ht => hT b ht (h.2 b hb)), h.2⟩
theorem OwnF.new {W W' : World} {N q : Nat} {src : Nat → List Nat} {F : Nat → Nat → Prop} {e : TypeId} {sz n : Nat} {v : Value} {xs : List Value} (h : W'.ownsRow W.heap.size e sz v n xs) (hN : N ≤ W.heap.size) : OwnF W' N (newF src F q W W') e sz v n xs :=
  ⟨owns_mono h hN, fun b hb => .inr (h.lt b hb)⟩
theorem OwnF.app {W W' : World} {N q s : Nat} {src : Nat → List Nat} {F : Nat → Nat → Prop} {e : TypeId} {sz n n' : Nat} {v v' : Value} {xs xs' : List Value} (h : OwnF W N (F s) e sz v n xs) (h' : W'.ownsRow N e sz v' n' xs') (hm : Moved W v v') (hs : s ∈ src q) : OwnF W' N (newF src F q W W') e sz v' n' xs' :=
  ⟨h', fun b hb => by
    rcases hm b hb with h1 | h1
    · exact .inl ⟨s, hs, h.2 b h1⟩
    exact .inr ⟨h1, (h'.lt b hb).2⟩⟩
theorem OwnF.src {W W' : World} {N q s : Nat} {src : Nat → List Nat} {F : Nat → Nat → Prop} {e : TypeId} {sz n : Nat} {v : Value} {xs : List Value} (h : OwnF W N (F s) e sz v n xs) (hk : Kept (fun b => v.ownBlock = some b) W W') (hs : s ∈ src q) : Kept (srcF src F q) W W' := hk.mono fun b hb => ⟨s, hs, h.2 b hb⟩
/-- The same row under another name. -/
theorem OwnF.same {W : World} {N q s : Nat} {src : Nat → List Nat} {F : Nat → Nat → Prop} {e : TypeId} {sz n : Nat} {v : Value} {xs : List Value} (h : OwnF W N (F s) e sz v n xs) (hs : s ∈ src q) : OwnF W N (newF src F q W W) e sz v n xs := ⟨h.1, fun b hb => .inl ⟨s, hs, h.2 b hb⟩⟩
theorem OwnF.form {W : World} {N : Nat} {F : Nat → Prop} {e : TypeId} {sz n : Nat} {v : Value} {xs : List Value} (h : OwnF W N F e sz v n xs) : ∃ A c, v = .slice A n c := by
  obtain ⟨A, c, h1, _⟩ := owns_form h.1
  exact ⟨A, c, h1⟩
theorem OwnF.cells {W : World} {N n c : Nat} {A : Option Addr} {F : Nat → Prop} {e : TypeId} {sz : Nat} {xs : List Value} (h : OwnF W N F e sz (.slice A n c) n xs) : Cells W A xs := Cells.of_owns h.1

end Go.Proofs.YtijkdpdmclkmlaaGreatDoor
