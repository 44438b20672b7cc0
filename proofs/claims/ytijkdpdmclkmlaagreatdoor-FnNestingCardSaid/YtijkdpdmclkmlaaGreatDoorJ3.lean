/- A region that draws its order and ends in an append and a store, or in one of them: told slot by slot; the frame is made at the end. No program is in sight. -/
import Derived.Test.YtijkdpdmclkmlaaGreatDoorJ1
import Derived.Test.YtijkdpdmclkmlaaGreatDoorJ2
set_option linter.unusedSimpArgs false
set_option linter.unusedVariables false
set_option maxRecDepth 100000
set_option maxHeartbeats 16000000
namespace Go.Proofs.YtijkdpdmclkmlaaGreatDoor
open Go.RowKit
/-- Operation j waits for i, at once or through others. -/
def reachB (ops : Array Oper) : Nat → Nat → Nat → Bool
  | 0, j, i => j == i
  | f + 1, j, i => j == i || (ops.getD j default).after.toList.any fun e => Region.binds .any e && reachB ops f e.on i
theorem dc_reach {ops : Array Oper} {L : Nat → Bool} (h : DC ops L) : ∀ (f j i : Nat), j < ops.size → (∀ (k : Nat) (o : Oper), ops[k]? = some o → ∀ e ∈ o.after, Region.binds .any e = true → e.on < ops.size) → L j = true → reachB ops f j i = true → L i = true
  | 0, j, i, _, _, hj, hr => by
    simp only [reachB, beq_iff_eq] at hr
    subst hr; exact hj
  | f + 1, j, i, hjs, hin, hj, hr => by
    simp only [reachB, Bool.or_eq_true, beq_iff_eq] at hr
    rcases hr with rfl | hr
    · exact hj
    obtain ⟨e, he, hb⟩ := List.any_eq_true.1 hr
    simp only [Bool.and_eq_true] at hb
    have ho : ops[j]? = some (ops.getD j default) := by rw [Array.getD_eq_getD_getElem?, Array.getElem?_eq_getElem hjs]; rfl
    have he' : e ∈ (ops.getD j default).after := Array.mem_toList_iff.1 he
    exact dc_reach h f e.on i (hin _ _ ho e he' hb.1) hin (h j _ ho hj e he' hb.1) hb.2

section
variable {P : Program} {Q : Exit → Act → World → Prop} {id : Nat} {ops : Array Oper} {a : Act} {w : World} {slots : List (Option Tmp)} {S : Nat → Value → Prop} {R : Nat → Value → World → Prop} {T : World → World → Prop} {qA qS : Nat} {D : Nat → World → Prop} {E F : Value → World → Prop} {L : Nat → Bool} {act : Act} {W : World}

def Holds1 (slots : List (Option Tmp)) (act : Act) (q : Nat) (v : Value) : Prop := ∀ s, slots[q]? = some (some s) → act.tmps[s]? = some v

structure PJ (ops : Array Oper) (slots : List (Option Tmp)) (a : Act) (S : Nat → Value → Prop) (R : Nat → Value → World → Prop) (qA qS : Nat) (D : Nat → World → Prop) (E F : Value → World → Prop) (L : Nat → Bool) (act : Act) (W : World) : Prop where
  df : act.defers = a.defers
  sz : act.tmps.size = a.tmps.size
  out : ∀ s, some s ∉ slots → act.tmps[s]? = a.tmps[s]?
  has : ∀ q s, L q = true → slots[q]? = some (some s) → ∃ v, act.tmps[s]? = some v ∧ S q v ∧ (L qA = false → R q v W)
  d : L qA = false → D (cntL ops.size L) W
  e : L qA = true → L qS = false → ∃ v, Holds1 slots act qA v ∧ E v W
  f : L qS = true → ∃ v, Holds1 slots act qA v ∧ F v W

theorem PJ.val {v : Value} (h : PJ ops slots a S R qA qS D E F L act W) {q : Nat} {s : Tmp} (hq : L q = true) (hs : slots[q]? = some (some s)) (hv : ∀ u, S q u → u = v) : act.tmps[s]? = some v := by
  obtain ⟨u, h1, h2, _⟩ := h.has q s hq hs
  rw [h1, hv u h2]

/-- What goes on behind an operation: nothing turned; laid or drawn ahead of the append; the append; the store; the one of them that there is. -/
inductive Nx (ops : Array Oper) (slots : List (Option Tmp)) (S : Nat → Value → Prop) (R : Nat → Value → World → Prop) (T : World → World → Prop) (qA qS : Nat) (D : Nat → World → Prop) (E F : Value → World → Prop) (L : Nat → Bool) (act : Act) (W : World) (q : Nat) (v : Value) (W' : World) : Prop
  | same (hA : q ≠ qA) (hS : q ≠ qS) (hs : S q v) (hw : W' = W) (hr : L qA = false → R q v W)
  | lay (hA : q ≠ qA) (hS : q ≠ qS) (hs : S q v) (hn : L qA = false) (ht : T W W') (hr : R q v W') (hd : D (cntL ops.size (upd L q)) W')
  | app (hA : q = qA) (hS : qA ≠ qS) (hs : S q v) (he : E v W')
  | store (hS : q = qS) (hA : qA ≠ qS) (hs : S q v) (u : Value) (hu : Holds1 slots act qA u) (hf : F u W')
  | one (hA : q = qA) (hS : qA = qS) (hs : S q v) (hf : F v W')

theorem wp_region_ph (hm : P.follows .mixedOrders = true) (slots : List (Option Tmp)) (S : Nat → Value → Prop) (R : Nat → Value → World → Prop) (T : World → World → Prop) (qA qS : Nat) (D : Nat → World → Prop) (E F : Value → World → Prop)
    (hsl : ops.toList.map (·.dst) = slots) (hok : slotsOk ops slots a.tmps.size = true) (hSA : reachB ops ops.size qS qA = true) (hqS : qS < ops.size) (hqA : qA < ops.size)
    (hmono : ∀ k k' W, k ≤ k' → D k W → D k' W) (hR : ∀ q v W W', T W W' → R q v W → R q v W') (h0 : D 0 w.drew)
    (step : ∀ (L : Nat → Bool) (act : Act) (W : World) (q : Nat) (o : Oper), PJ ops slots a S R qA qS D E F L act W → L q = false → (reachB ops ops.size qA q = true → L qA = false) → (reachB ops ops.size qS q = true → L qS = false) → ops[q]? = some o → (∀ e ∈ o.after, Region.binds .any e = true → L e.on = true) →
      ∀ K' : Act → World → Prop, (∀ v W', Nx ops slots S R T qA qS D E F L act W q v W' → K' (act.put o.dst v) W') → if Region.wanted o (yielded ops act.tmps) = true then Oper.wp P o act W K' Q else K' (act.put o.dst undef) W)
    (fin : ∀ (V : Nat → Value) (W : World), (∃ v, (∀ s, slots[qA]? = some (some s) → V qA = v) ∧ F v W) → (∀ q s, slots[q]? = some (some s) → S q (V q)) → Q .normal ⟨layV V 0 slots a.tmps, a.defers⟩ W) :
    (Code.region id ops true).wp P Q a w := by
  have hok2 := hok
  unfold slotsOk at hok
  simp only [Bool.and_eq_true] at hok
  obtain ⟨⟨hnd, hin⟩, hearly⟩ := hok
  have hlen : slots.length = ops.size := by rw [← hsl]; simp
  have hslot : ∀ (q : Nat) (o : Oper), ops[q]? = some o → slots[q]? = some o.dst := fun q o ho => by
    rw [← hsl, List.getElem?_map, Array.getElem?_toList, ho]; rfl
  have hear : ∀ (k : Nat) (o : Oper), ops[k]? = some o → ∀ e ∈ o.after, Region.binds .any e = true → e.on < k := fun k o ho e he hb => by
    have hk := (Array.getElem?_eq_some_iff.1 ho).1
    have h1 := hearly
    unfold earlyB at h1
    rw [List.all_eq_true] at h1
    have h2 := h1 k (List.mem_range.2 hk)
    rw [List.all_eq_true] at h2
    have h3 := h2 e (by rw [Array.getD_eq_getD_getElem?, ho]; exact Array.mem_toList_iff.2 he)
    rw [hb] at h3
    simpa using h3
  have hbnd : ∀ (k : Nat) (o : Oper), ops[k]? = some o → ∀ e ∈ o.after, Region.binds .any e = true → e.on < ops.size := fun k o ho e he hb => by
    have := hear k o ho e he hb
    have := (Array.getElem?_eq_some_iff.1 ho).1
    omega
  have key : ∀ {L : Nat → Bool} {j i : Nat}, DC ops L → j < ops.size → L i = false → reachB ops ops.size j i = true → L j = false := fun {L j i} hc hj hi hr => by
    cases h : L j
    · rfl
    rw [dc_reach hc _ j i hj hbnd h hr] at hi; cases hi
  refine wp_region_dc hm (fun L act W => PJ ops slots a S R qA qS D E F L act W) ?_ ?_ ?_
  · exact { df := rfl, sz := rfl, out := fun _ _ => rfl, has := fun _ _ h => (nomatch h), d := fun _ => hmono 0 _ _ (Nat.zero_le _) h0, e := fun h => (nomatch h), f := fun h => (nomatch h) }
  · intro L act W q o hJ hC hL ho hd K' hK'
    have hqs : q < ops.size := (Array.getElem?_eq_some_iff.1 ho).1
    have hAlt : ∀ hr : reachB ops ops.size qA q = true, L qA = false := fun hr => key hC hqA hL hr
    refine step L act W q o hJ hL hAlt (fun hr => key hC hqS hL hr) ho hd K' fun v W' hn => hK' _ _ ?_
    have hsq := hslot q o ho
    -- what the slots hold behind it
    have hput : ∀ e s u, e ≠ q → slots[e]? = some (some s) → act.tmps[s]? = some u → (act.put o.dst v).tmps[s]? = some u := fun e s u hne hs hu => by
      cases hdst : o.dst with
      | none => exact hu
      | some d =>
        rw [hdst] at hsq
        have hne2 : d ≠ s := fun h => by subst h; exact hne (nodupO_at hnd hs hsq)
        show (act.tmps.setIfInBounds d v)[s]? = _
        rw [Array.getElem?_setIfInBounds_ne hne2]
        exact hu
    have hself : ∀ s, slots[q]? = some (some s) → (act.put o.dst v).tmps[s]? = some v := fun s hs => by
      rw [hsq] at hs
      injection hs with hs
      rw [hs]
      show (act.tmps.setIfInBounds s v)[s]? = _
      exact Array.getElem?_setIfInBounds_self_of_lt (by rw [hJ.sz]; exact inO_at hin (by rw [hsq, hs]))
    have hdf : (act.put o.dst v).defers = a.defers := by
      cases hdst : o.dst with
      | none => exact hJ.df
      | some d => exact hJ.df
    have hsz : (act.put o.dst v).tmps.size = a.tmps.size := by
      cases hdst : o.dst with
      | none => exact hJ.sz
      | some d => show (act.tmps.setIfInBounds d v).size = _; rw [Array.size_setIfInBounds]; exact hJ.sz
    have hout : ∀ s, some s ∉ slots → (act.put o.dst v).tmps[s]? = a.tmps[s]? := fun s hs => by
      cases hdst : o.dst with
      | none => exact hJ.out s hs
      | some d =>
        rw [hdst] at hsq
        have hne : d ≠ s := fun h => hs (by subst h; exact List.mem_of_getElem? hsq)
        show (act.tmps.setIfInBounds d v)[s]? = _
        rw [Array.getElem?_setIfInBounds_ne hne]
        exact hJ.out s hs
    have hone : ∀ u, q ≠ qA → Holds1 slots act qA u → Holds1 slots (act.put o.dst v) qA u := fun u hne hu s hs => hput qA s u (fun h => hne h.symm) hs (hu s hs)
    have hqSA : L qS = true → L qA = true := fun h => dc_reach hC _ qS qA hqS hbnd h hSA
    cases hn with
    | same hA hS hs hw hr =>
      subst hw
      have u1 : upd L q qA = L qA := upd_other (fun h => hA h.symm)
      have u2 : upd L q qS = L qS := upd_other (fun h => hS h.symm)
      refine { df := hdf, sz := hsz, out := hout, has := fun e s he hs' => ?_, d := fun h => ?_, e := fun h1 h2 => ?_, f := fun h => ?_ }
      · by_cases heq : e = q
        · subst heq
          exact ⟨v, hself s hs', hs, fun h => hr (by rw [u1] at h; exact h)⟩
        rw [upd_other heq] at he
        obtain ⟨u, h1, h2, h3⟩ := hJ.has e s he hs'
        exact ⟨u, hput e s u heq hs' h1, h2, fun h => h3 (by rw [u1] at h; exact h)⟩
      · rw [u1] at h
        exact hmono _ _ _ (cnt_mono hL _) (hJ.d h)
      · rw [u1] at h1; rw [u2] at h2
        obtain ⟨u, a1, a2⟩ := hJ.e h1 h2
        exact ⟨u, hone u hA a1, a2⟩
      rw [u2] at h
      obtain ⟨u, a1, a2⟩ := hJ.f h
      exact ⟨u, hone u hA a1, a2⟩
    | lay hA hS hs hn ht hr hd' =>
      have u1 : upd L q qA = L qA := upd_other (fun h => hA h.symm)
      have u2 : upd L q qS = L qS := upd_other (fun h => hS h.symm)
      have hSf : L qS = false := by
        cases h : L qS
        · rfl
        rw [hqSA h] at hn; cases hn
      refine { df := hdf, sz := hsz, out := hout, has := fun e s he hs' => ?_, d := fun _ => hd', e := fun h1 _ => absurd h1 (by rw [u1, hn]; exact Bool.false_ne_true), f := fun h => absurd h (by rw [u2, hSf]; exact Bool.false_ne_true) }
      by_cases heq : e = q
      · subst heq
        exact ⟨v, hself s hs', hs, fun _ => hr⟩
      rw [upd_other heq] at he
      obtain ⟨u, h1, h2, h3⟩ := hJ.has e s he hs'
      exact ⟨u, hput e s u heq hs' h1, h2, fun _ => hR _ _ _ _ ht (h3 hn)⟩
    | app hA hS hs he =>
      subst hA
      have u2 : upd L q qS = L qS := upd_other (fun h => hS h.symm)
      have hSf : L qS = false := by
        cases h : L qS
        · rfl
        rw [hqSA h] at hL; cases hL
      refine { df := hdf, sz := hsz, out := hout, has := fun e s he' hs' => ?_, d := fun h => absurd h (by rw [upd_same]; exact fun h => (nomatch h)), e := fun _ _ => ⟨v, hself, he⟩, f := fun h => absurd h (by rw [u2, hSf]; exact Bool.false_ne_true) }
      by_cases heq : e = q
      · subst heq
        exact ⟨v, hself s hs', hs, fun h => absurd h (by rw [upd_same]; exact fun h => (nomatch h))⟩
      rw [upd_other heq] at he'
      obtain ⟨u, h1, h2, _⟩ := hJ.has e s he' hs'
      exact ⟨u, hput e s u heq hs' h1, h2, fun h => absurd h (by rw [upd_same]; exact fun h => (nomatch h))⟩
    | store hS hA hs u hu hf =>
      subst hS
      have hqa : L qA = true := by
        obtain ⟨f, hf'⟩ : ∃ f, ops.size = f + 1 := ⟨ops.size - 1, by omega⟩
        rw [hf'] at hSA
        simp only [reachB, Bool.or_eq_true, beq_iff_eq] at hSA
        rcases hSA with h | h
        · exact absurd h.symm hA
        obtain ⟨e, he, hb⟩ := List.any_eq_true.1 h
        simp only [Bool.and_eq_true] at hb
        rw [Array.getD_eq_getD_getElem?, ho] at he
        have he' : e ∈ o.after := Array.mem_toList_iff.1 he
        exact dc_reach hC f e.on qA (hbnd _ _ ho e he' hb.1) hbnd (hd e he' hb.1) hb.2
      have u1 : upd L q qA = L qA := upd_other hA
      refine { df := hdf, sz := hsz, out := hout, has := fun e s he' hs' => ?_, d := fun h => absurd h (by rw [u1, hqa]; exact fun h => (nomatch h)), e := fun _ h => absurd h (by rw [upd_same]; exact fun h => (nomatch h)), f := fun _ => ⟨u, hone u (fun h => hA h.symm) hu, hf⟩ }
      by_cases heq : e = q
      · subst heq
        exact ⟨v, hself s hs', hs, fun h => absurd h (by rw [u1, hqa]; exact fun h => (nomatch h))⟩
      rw [upd_other heq] at he'
      obtain ⟨u', h1, h2, _⟩ := hJ.has e s he' hs'
      exact ⟨u', hput e s u' heq hs' h1, h2, fun h => absurd h (by rw [u1, hqa]; exact fun h => (nomatch h))⟩
    | one hA hS hs hf =>
      subst hA
      subst hS
      refine { df := hdf, sz := hsz, out := hout, has := fun e s he' hs' => ?_, d := fun h => absurd h (by rw [upd_same]; exact fun h => (nomatch h)), e := fun _ h => absurd h (by rw [upd_same]; exact fun h => (nomatch h)), f := fun _ => ⟨v, hself, hf⟩ }
      by_cases heq : e = q
      · subst heq
        exact ⟨v, hself s hs', hs, fun h => absurd h (by rw [upd_same]; exact fun h => (nomatch h))⟩
      rw [upd_other heq] at he'
      obtain ⟨u', h1, h2, _⟩ := hJ.has e s he' hs'
      exact ⟨u', hput e s u' heq hs' h1, h2, fun h => absurd h (by rw [upd_same]; exact fun h => (nomatch h))⟩
  intro L act W hJ hfin
  have hall : ∀ n q, q < n → q < ops.size → L q = true := by
    intro n
    induction n with
    | zero => intro q h; omega
    | succ n ih =>
      intro q hq hqs
      cases hl : L q with
      | true => rfl
      | false =>
        obtain ⟨e, he, hb, hon⟩ := hfin q _ (Array.getElem?_eq_getElem hqs) hl
        have h3 := hear q _ (Array.getElem?_eq_getElem hqs) e he hb
        rw [ih e.on (by omega) (by omega)] at hon
        cases hon
  have hall' : ∀ q, q < ops.size → L q = true := fun q hq => hall (q + 1) q (Nat.lt_succ_self _) hq
  have hlt : ∀ {q s}, slots[q]? = some (some s) → q < ops.size := fun {q s} h => by
    have := (List.getElem?_eq_some_iff.1 h).1
    omega
  let V : Nat → Value := fun q => match slots[q]? with
    | some (some s) => act.tmps[s]?.getD undef
    | _ => undef
  have hVe : ∀ q s v, slots[q]? = some (some s) → act.tmps[s]? = some v → V q = v := fun q s v hs hv => by
    show (match slots[q]? with | some (some s) => act.tmps[s]?.getD undef | _ => undef) = v
    rw [hs]
    show act.tmps[s]?.getD undef = v
    rw [hv]
    rfl
  have hV : ∀ q s, slots[q]? = some (some s) → act.tmps[s]? = some (V q) ∧ S q (V q) := fun q s hs => by
    obtain ⟨v, h1, h2, _⟩ := hJ.has q s (hall' q (hlt hs)) hs
    rw [hVe q s v hs h1]
    exact ⟨h1, h2⟩
  have hact : act = ⟨layV V 0 slots a.tmps, a.defers⟩ := by
    have ht : act.tmps = layV V 0 slots a.tmps := by
      apply Array.ext_getElem?
      intro s
      by_cases hs : some s ∈ slots
      · obtain ⟨q, hq, e⟩ := List.getElem_of_mem hs
        have hqs : slots[q]? = some (some s) := by rw [List.getElem?_eq_getElem hq, e]
        rw [(hV q s hqs).1, layV_in hnd hqs (inO_at hin hqs), Nat.zero_add]
      rw [hJ.out s hs, layV_out hs]
    show (⟨act.tmps, act.defers⟩ : Act) = _
    rw [hJ.df]
    exact congrArg (fun t => (⟨t, a.defers⟩ : Act)) ht
  obtain ⟨v, h1, h2⟩ := hJ.f (hall' qS hqS)
  have hfin' := fin V W ⟨v, fun s hs => hVe qA s v hs (h1 s hs), h2⟩ fun q s hs => (hV q s hs).2
  rw [← hact] at hfin'
  exact hfin'
end

/-- append, as one operation of a region: what has grown, and whether it has moved. -/
theorem step_appM {P : Program} {Y} {o : Oper} {a : Act} {w : World} {K : Act → World → Prop} {Q : Exit → Act → World → Prop} {G : Prop} {t e : TypeId} {size bytes : Nat} (el : El P t e size bytes) (hgd : o.guard = none) (s x : Operand)
    (ho : o.op = .call { callee := .builtin .append, args := #[s, x], argTypes := #[t, t] })
    (base : Nat) (v : Value) (n : Nat) (xs : List Value) (hs : a.eval s = v) (hown : w.ownsRow base e size v n xs)
    (ad : Addr) (m c : Nat) (news : List Value) (hx : a.eval x = .slice (some ad) m c) (hm : 1 ≤ m) (hl : news.length = m * size) (hnews : ∀ j u, news[j]? = some u → w.cell? (ad.add j) = some u) (h1 : ∀ u ∈ news, u.oneCell' = true)
    (hn : (n + m) * bytes ≤ 140737488355328 ∧ n + m ≤ 4611686018427387904) (hbase : base ≤ w.heap.size)
    (h : ∀ v' w', w'.ownsRow base e size v' (n + m) (xs ++ news) → Kept (fun q => v.ownBlock = some q) w w' → Moved w v v' → K (a.put o.dst v') w') : if Region.wanted o Y = true then Oper.wp P o a w K Q else G := by
  obtain ⟨v', w', hr, r1, r2, r3⟩ := run_app (P := P) (ty := o.type) el base v n xs hown ad m c news hm hl hnews h1 (by unfold maxLen; omega) (by omega) hbase
  rw [if_pos (by simp [Region.wanted, hgd])]
  unfold Oper.wp
  simp [execOp, ho, resolve, invoke, builtin, hs, hx, hr]
  exact h v' w' r1 (kept_of_grown r2) r3

end Go.Proofs.YtijkdpdmclkmlaaGreatDoor
