/- A region that draws its order and ends in one operation that waits for all others (a store): the others are told slot by slot, the last one is walked at the frame that they make. No program is in sight. The first string that is equal: the program's slices.Index walked. slices.Clone at numbers, at strings and at inner names: library walked. -/
import Derived.Test.YtijkdpdmclkmlaaGreatDoorJ1
import Derived.Test.YtijkdpdmclkmlaaGreatDoorJ3
import Derived.Lib.Hide
import Derived.Test.YtijkdpdmclkmlaaGreatDoorProg
import Derived.Test.YtijkdpdmclkmlaaGreatDoorJ0
import Derived.Handy
import Derived.StillTailTactics
import Derived.Lib.SliceRun
import Derived.Test.YtijkdpdmclkmlaaGreatDoorJ5
import Derived.Test.YtijkdpdmclkmlaaGreatDoorJ15
import Derived.Test.YtijkdpdmclkmlaaGreatDoorJ17
set_option linter.unusedSimpArgs false
set_option linter.unusedVariables false
set_option maxRecDepth 100000
set_option maxHeartbeats 16000000
namespace Go.Proofs.YtijkdpdmclkmlaaGreatDoor
open Go.RowKit
/-- A goal that no tactic unfolds. -/
structure Shut (p : Prop) : Prop where
  out : p

/-- The last operation waits for each other one. -/
def lastB (ops : Array Oper) (n : Nat) : Bool := ops.size == n + 1 && (List.range n).all fun i => reachB ops (n + 1) n i

section
variable {P : Program} {Q : Exit → Act → World → Prop} {id : Nat} {ops : Array Oper} {a : Act} {w : World}

def TJ (ops : Array Oper) (slots : List (Option Tmp)) (a : Act) (w : World) (R : Nat → Value → World → Prop) (n : Nat) (Q : Exit → Act → World → Prop) (L : Nat → Bool) (act : Act) (W : World) : Prop :=
  (L n = true → Q .normal act W) ∧ (L n = false → VJ ops slots a w R L act W)

theorem wp_region_tail (hm : P.follows .mixedOrders = true) (n : Nat) (o0 : Oper) (hon0 : ops[n]? = some o0) (slots : List (Option Tmp)) (R : Nat → Value → World → Prop)
    (hsl : ops.toList.map (·.dst) = slots) (hok : slotsOk ops slots a.tmps.size = true) (hlast : lastB ops n = true) (hnone : slots[n]? = some none)
    (hR : ∀ q v W W', Below W.heap.size W W' → R q v W → R q v W')
    (step : ∀ (L : Nat → Bool) (act : Act) (W : World) (q : Nat) (o : Oper), VJ ops slots a w R L act W → q ≠ n → ops[q]? = some o → (∀ e ∈ o.after, Region.binds .any e = true → L e.on = true) →
      ∀ K' : Act → World → Prop, (∀ v W', Below W.heap.size W W' → R q v W' → K' (act.put o.dst v) W') → if Region.wanted o (yielded ops act.tmps) = true then Oper.wp P o act W K' Q else K' (act.put o.dst undef) W)
    (tail : ∀ (V : Nat → Value) (W : World), Below w.heap.size w W → (∀ q s, slots[q]? = some (some s) → R q (V q) W) →
      ∀ K' : Act → World → Prop, (∀ W', Q .normal ⟨layV V 0 slots a.tmps, a.defers⟩ W' → K' ⟨layV V 0 slots a.tmps, a.defers⟩ W') →
        Shut (if Region.wanted o0 (yielded ops (layV V 0 slots a.tmps)) = true then Oper.wp P o0 ⟨layV V 0 slots a.tmps, a.defers⟩ W K' Q else K' ⟨layV V 0 slots a.tmps, a.defers⟩ W)) :
    (Code.region id ops true).wp P Q a w := by
  unfold slotsOk at hok
  simp only [Bool.and_eq_true] at hok
  obtain ⟨⟨hnd, hin⟩, hearly⟩ := hok
  unfold lastB at hlast
  simp only [Bool.and_eq_true, beq_iff_eq] at hlast
  obtain ⟨hsz, hall⟩ := hlast
  have hlen : slots.length = ops.size := by rw [← hsl]; simp
  have hslot : ∀ (q : Nat) (o : Oper), ops[q]? = some o → slots[q]? = some o.dst := fun q o ho => by
    rw [← hsl, List.getElem?_map, Array.getElem?_toList, ho]; rfl
  have hbnd : ∀ (k : Nat) (o : Oper), ops[k]? = some o → ∀ e ∈ o.after, Region.binds .any e = true → e.on < ops.size := fun k o ho e he hb => by
    have hk := (Array.getElem?_eq_some_iff.1 ho).1
    have h1 := hearly
    unfold earlyB at h1
    rw [List.all_eq_true] at h1
    have h2 := h1 k (List.mem_range.2 hk)
    rw [List.all_eq_true] at h2
    have h3 := h2 e (by rw [Array.getD_eq_getD_getElem?, ho]; exact Array.mem_toList_iff.2 he)
    rw [hb] at h3
    have h4 : e.on < k := by simpa using h3
    omega
  have hreach : ∀ i, i < n → reachB ops (n + 1) n i = true := fun i hi => by
    rw [List.all_eq_true] at hall
    exact hall i (List.mem_range.2 hi)
  have hon : ops[n]? = some (ops[n]'(by omega)) := Array.getElem?_eq_getElem _
  refine wp_region_dc hm (fun L act W => TJ ops slots a w R n Q L act W) ?_ ?_ ?_
  · exact ⟨fun h => (nomatch h), fun _ => { bel := (Below.refl _ _).drew, df := rfl, sz := rfl, out := fun _ _ => rfl, has := fun _ _ h => nomatch h }⟩
  · intro L act W q o hJ hC hL ho hd K' hK'
    have hqs : q < ops.size := (Array.getElem?_eq_some_iff.1 ho).1
    by_cases hqn : q = n
    · subst hqn
      have hJ := hJ.2 hL
      have hup : ∀ i, i < q → L i = true := fun i hi => by
        have hr := hreach i hi
        simp only [reachB, Bool.or_eq_true, beq_iff_eq] at hr
        rcases hr with hr | hr
        · omega
        obtain ⟨e, he, hb⟩ := List.any_eq_true.1 hr
        simp only [Bool.and_eq_true] at hb
        rw [Array.getD_eq_getD_getElem?, ho] at he
        have he' : e ∈ o.after := Array.mem_toList_iff.1 he
        exact dc_reach hC _ e.on i (hbnd _ _ ho e he' hb.1) hbnd (hd e he' hb.1) hb.2
      have hlt : ∀ {i s}, slots[i]? = some (some s) → i < q := fun {i s} h => by
        have h1 := (List.getElem?_eq_some_iff.1 h).1
        have h2 : i ≠ q := fun e => by subst e; rw [hnone] at h; cases h
        omega
      let V : Nat → Value := fun q => match slots[q]? with
        | some (some s) => act.tmps[s]?.getD undef
        | _ => undef
      have hV : ∀ q s, slots[q]? = some (some s) → act.tmps[s]? = some (V q) ∧ R q (V q) W := fun q s hs => by
        obtain ⟨v, h1, h2⟩ := hJ.has q s (hup q (hlt hs)) hs
        have e : V q = v := by
          show (match slots[q]? with | some (some s) => act.tmps[s]?.getD undef | _ => undef) = v
          rw [hs]
          show act.tmps[s]?.getD undef = v
          rw [h1]
          rfl
        rw [e]
        exact ⟨h1, h2⟩
      have hact : act = ⟨layV V 0 slots a.tmps, a.defers⟩ := by
        have ht : act.tmps = layV V 0 slots a.tmps := by
          apply Array.ext_getElem?
          intro s
          by_cases hs : some s ∈ slots
          · obtain ⟨q, hq, e⟩ := List.getElem_of_mem hs
            have hqs : slots[q]? = some (some s) := by rw [List.getElem?_eq_getElem hq, e]
            rw [(hV q s hqs).1, layV_in hnd hqs (inO_at hin hqs), Nat.zero_add]
          rw [hJ.out s hs, layV_out hs]
        show (⟨act.tmps, act.defers⟩ : Act) = _
        rw [hJ.df]
        exact congrArg (fun t => (⟨t, a.defers⟩ : Act)) ht
      obtain rfl : o = o0 := by rw [hon0] at ho; injection ho with ho; exact ho.symm
      have hdst : o.dst = none := by
        have h := hslot q o ho
        rw [hnone] at h
        injection h with h
        exact h.symm
      have ht := (tail V W hJ.bel (fun q s hs => (hV q s hs).2) K' fun W' hQ => hK' _ _ ⟨fun _ => hQ, (fun h => absurd h (by rw [upd_same]; exact fun h => nomatch h))⟩).out
      rw [hdst, hact]
      exact ht
    have hLn : L n = false := by
      cases h : L n
      · rfl
      rw [dc_reach hC _ n q (by omega) hbnd h (hreach q (by omega))] at hL
      cases hL
    have hJ := hJ.2 hLn
    refine step L act W q o hJ hqn ho hd K' fun v W' hb hr => hK' _ _ ⟨(fun h => absurd h (by rw [upd_other (fun e => hqn e.symm), hLn]; exact Bool.false_ne_true)), fun _ => ?_⟩
    have hsq := hslot q o ho
    cases hdst : o.dst with
    | none =>
      rw [hdst] at hsq
      refine { bel := hJ.bel.trans (hb.mono hJ.bel.size), df := hJ.df, sz := hJ.sz, out := hJ.out, has := fun e s he hs => ?_ }
      have hne : e ≠ q := fun h => by subst h; rw [hsq] at hs; cases hs
      obtain ⟨u, h1, h2⟩ := hJ.has e s (by rw [upd_other hne] at he; exact he) hs
      exact ⟨u, h1, hR _ _ _ _ hb h2⟩
    | some d =>
      rw [hdst] at hsq
      have hdz : d < act.tmps.size := by rw [hJ.sz]; exact inO_at hin hsq
      refine { bel := hJ.bel.trans (hb.mono hJ.bel.size), df := hJ.df, sz := by show (act.tmps.setIfInBounds d v).size = _; rw [Array.size_setIfInBounds]; exact hJ.sz, out := fun s hs => ?_, has := fun e s he hs => ?_ }
      · have hne : d ≠ s := fun h => hs (by subst h; exact List.mem_of_getElem? hsq)
        show (act.tmps.setIfInBounds d v)[s]? = _
        rw [Array.getElem?_setIfInBounds_ne hne]
        exact hJ.out s hs
      show ∃ u, (act.tmps.setIfInBounds d v)[s]? = some u ∧ _
      by_cases heq : e = q
      · subst heq
        rw [hsq] at hs
        injection hs with hs
        injection hs with hs
        subst hs
        exact ⟨v, Array.getElem?_setIfInBounds_self_of_lt hdz, hr⟩
      obtain ⟨u, h1, h2⟩ := hJ.has e s (by rw [upd_other heq] at he; exact he) hs
      have hne : d ≠ s := fun h => by subst h; exact heq (nodupO_at hnd hs hsq)
      exact ⟨u, by rw [Array.getElem?_setIfInBounds_ne hne]; exact h1, hR _ _ _ _ hb h2⟩
  intro L act W hJ hfin
  have hallL : ∀ m q, q < m → q < ops.size → L q = true := by
    intro m
    induction m with
    | zero => intro q h; omega
    | succ m ih =>
      intro q hq hqs
      cases hl : L q with
      | true => rfl
      | false =>
        obtain ⟨e, he, hb, hon⟩ := hfin q _ (Array.getElem?_eq_getElem hqs) hl
        have h1 := hearly
        unfold earlyB at h1
        rw [List.all_eq_true] at h1
        have h2 := h1 q (List.mem_range.2 hqs)
        rw [List.all_eq_true] at h2
        have h3 := h2 e (by rw [Array.getD_eq_getD_getElem?, Array.getElem?_eq_getElem hqs]; exact Array.mem_toList_iff.2 he)
        rw [hb] at h3
        simp at h3
        rw [ih e.on (by omega) (by omega)] at hon
        cases hon
  exact hJ.1 (hallL (n + 1) n (Nat.lt_succ_self _) (by omega))
end

def NoB (p : Nat → Bool) (k : Nat) : Prop := ∀ j, j < k → p j = false
theorem indexS_any (A : Option Addr) (c : Nat) (ls : List ByteArray) (x : ByteArray) (w : World) (hn : ls.length ≤ 16777216) (hA : Cells w A (strs ls)) :
    Calls Tryz.prog 121 #[.slice A ls.length c, .string x] w fun e w' => e = .returned (.int .i64 (idxR ls.length fun k => decide (ls.getD k default = x))) ∧ w = w' := by
  obtain ⟨p, hp⟩ : ∃ p : Nat → Bool, p = fun k => decide (ls.getD k default = x) := ⟨_, rfl⟩
  rw [← hp]
  have HP := Lib.hid (fun k => show p k = decide (ls.getD k default = x) from by rw [hp])
  clear hp
  go_enter Tryz.func121, Tryz.ntmps121
  go_wp2
  go_loop [8] (fun i => ∃ k : Nat, k ≤ ls.length ∧ i = .int .i64 k ∧ NoB p k) (fun i => ls.length - (intOf i).toNat)
  case atStart => exact ⟨0, Nat.zero_le _, rfl, fun j hj => by omega⟩
  obtain ⟨k, hk, rfl, hall⟩ := hrel
  have HALL := Lib.hid hall
  clear hall
  by_cases hlt : k < ls.length
  · obtain ⟨b, o, rfl, hc⟩ := hA.str hlt
    have c0 := hc k hlt
    by_cases he : ls.getD k default = x
    · have HY := Lib.hid (idxR_some hlt HALL.out (by rw [HP.out]; simpa using he))
      have hee := str_eq x
      rw [he] at c0
      clear hc hA he
      go_wp2_with fail
      go_ret
      exact ⟨by rw [HY.out]; rfl, rfl⟩
    have HN := Lib.hid (show NoB p (k + 1) from none_next HALL.out (by rw [HP.out]; simpa using he))
    have hee := str_ne (fun h => he h.symm)
    clear hc hA he
    generalize ls.getD k default = y at *
    go_wp2_with fail
    go_round
    case rel => exact ⟨k + 1, by omega, by go_num, HN.out⟩
    case measure => simp [intOf]; omega
  obtain rfl : k = ls.length := by omega
  have HF := Lib.hid (idxR_none HALL.out)
  go_wp2_with fail
  go_ret
  exact ⟨by rw [HF.out]; rfl, rfl⟩

theorem gints_len (l : List Int) : (ints l).length = l.length * 1 := by simp [ints]
theorem gints_one (l : List Int) : ∀ u ∈ ints l, u.oneCell' = true := by
  intro u hu
  obtain ⟨x, _, rfl⟩ := List.mem_map.1 hu
  rfl
theorem gstrs_len (l : List ByteArray) : (strs l).length = l.length * 1 := by simp [strs]
theorem gstrs_one (l : List ByteArray) : ∀ u ∈ strs l, u.oneCell' = true := by
  intro u hu
  obtain ⟨x, _, rfl⟩ := List.mem_map.1 hu
  rfl
theorem gwis_len : ∀ (l : List Wi), (l.flatMap encWi).length = l.length * 2
  | [] => rfl
  | x :: l => by rw [List.flatMap_cons, List.length_append, gwis_len l, List.length_cons, Nat.add_mul]; show 2 + _ = _; omega
theorem gwis_one (l : List Wi) : ∀ u ∈ l.flatMap encWi, u.oneCell' = true := by
  intro u hu
  obtain ⟨t, _, ht⟩ := List.mem_flatMap.1 hu
  simp [encWi] at ht
  rcases ht with rfl | rfl <;> rfl
theorem cells_addG {w : World} {ad : Addr} {cs : List Value} (h : Cells w (some ad) cs) : ∀ j u, cs[j]? = some u → w.cell? (ad.add j) = some u := by
  intro j u hj
  obtain ⟨b, o, e, hc⟩ := h.at_ (List.getElem?_eq_some_iff.1 hj).1
  injection e with e
  subst e
  rw [Addr.add_lit]
  exact hc j u hj

theorem info_cloneIG : (Tryz.prog.info? 3).map (fun i => (i.zero, i.size, i.bytes)) = some (some (.int .i64 0), 1, 8) := by kernel_rfl

theorem cloneIG_any (A : Option Addr) (c : Nat) (l : List Int) (w : World) (hn : l.length ≤ 16777216) (hA : Cells w A (ints l)) :
    Calls Tryz.prog 181 #[.slice A l.length c] w fun e w' => ∃ u, e = .returned u ∧ w'.ownsRow w.heap.size 3 1 u l.length (ints l) ∧ Below w.heap.size w w' := by
  obtain ⟨i0, hi, hz0, hz1, hz2⟩ := info_parts info_cloneIG
  have qn : ∀ (w : World) (a : Option Addr) (n c n' c' : Nat), (binOp .eql 28 (.slice a n c) (.slice none n' c')).run Tryz.prog w = .ok (.bool a.isNone) w := fun w a n c n' c' => Lib.run_eql_slice_nil w _ _ a n c n' c' Tryz.underlying28
  cases A with
  | none =>
    have h0 : l = [] := by
      cases l with
      | nil => rfl
      | cons x r =>
        obtain ⟨b, o, e, _⟩ := hA.at_ (k := 0) (by simp)
        cases e
    subst h0
    go_enter Tryz.func181, Tryz.ntmps181
    go_wp2_with fail
    go_ret
    exact ⟨_, rfl, World.ownsRow_nil _ _ _ _, Below.refl _ _⟩
  | some ad =>
    have HC := Lib.hid (show ∀ W, Below w.heap.size w W → Cells W (some ad) (ints l) from fun W hb => hA.below hb)
    clear hA
    have hba : Below w.heap.size w (w.alloc (.cells #[] 3)) := (Below.refl _ _).alloc (Nat.le_refl _) _
    have HB := Lib.hid hba
    clear hba
    go_enter Tryz.func181, Tryz.ntmps181
    go_wp2_with (at_builtin; refine wpList_append_own _ rfl _ _ 28 rfl w.heap.size 3 i0 (.int .i64 0) 1 8 Tryz.underlying28 hi hz0 hz1 hz2 rfl (by decide) _ _ _ rfl (World.ownsRow_made w #[] 0 (Nat.le_refl _) (Nat.zero_le _) rfl) ad l.length c (ints l) rfl (gints_len l) (cells_addG (HC.out _ HB.out)) (gints_one l) (by unfold maxLen; omega) (by omega) (by simp) ?_; intro v2 w2 hown2 hgrow2 _)
    rw [Nat.zero_add, List.nil_append] at hown2
    have HG := Lib.hid (HB.out.grown hgrow2 (by simp) (fun k hk => ((World.ownsRow_made (e := 3) (size := 1) w #[] 0 (Nat.le_refl _) (Nat.zero_le _) rfl).lt k hk).1))
    have HO := Lib.hid hown2
    clear hgrow2 hown2
    go_wp2_with fail
    go_ret
    exact ⟨_, rfl, HO.out, HG.out⟩

theorem info_cloneSG : (Tryz.prog.info? 9).map (fun i => (i.zero, i.size, i.bytes)) = some (some (.string ⟨#[]⟩), 1, 16) := by kernel_rfl

theorem cloneSG_any (A : Option Addr) (c : Nat) (l : List ByteArray) (w : World) (hn : l.length ≤ 16777216) (hA : Cells w A (strs l)) :
    Calls Tryz.prog 124 #[.slice A l.length c] w fun e w' => ∃ u, e = .returned u ∧ w'.ownsRow w.heap.size 9 1 u l.length (strs l) ∧ Below w.heap.size w w' := by
  obtain ⟨i0, hi, hz0, hz1, hz2⟩ := info_parts info_cloneSG
  have qn : ∀ (w : World) (a : Option Addr) (n c n' c' : Nat), (binOp .eql 24 (.slice a n c) (.slice none n' c')).run Tryz.prog w = .ok (.bool a.isNone) w := fun w a n c n' c' => Lib.run_eql_slice_nil w _ _ a n c n' c' Tryz.underlying24
  cases A with
  | none =>
    have h0 : l = [] := by
      cases l with
      | nil => rfl
      | cons x r =>
        obtain ⟨b, o, e, _⟩ := hA.at_ (k := 0) (by simp)
        cases e
    subst h0
    go_enter Tryz.func124, Tryz.ntmps124
    go_wp2_with fail
    go_ret
    exact ⟨_, rfl, World.ownsRow_nil _ _ _ _, Below.refl _ _⟩
  | some ad =>
    have HC := Lib.hid (show ∀ W, Below w.heap.size w W → Cells W (some ad) (strs l) from fun W hb => hA.below hb)
    clear hA
    have hba : Below w.heap.size w (w.alloc (.cells #[] 9)) := (Below.refl _ _).alloc (Nat.le_refl _) _
    have HB := Lib.hid hba
    clear hba
    go_enter Tryz.func124, Tryz.ntmps124
    go_wp2_with (at_builtin; refine wpList_append_own _ rfl _ _ 24 rfl w.heap.size 9 i0 (.string ⟨#[]⟩) 1 16 Tryz.underlying24 hi hz0 hz1 hz2 rfl (by decide) _ _ _ rfl (World.ownsRow_made w #[] 0 (Nat.le_refl _) (Nat.zero_le _) rfl) ad l.length c (strs l) rfl (gstrs_len l) (cells_addG (HC.out _ HB.out)) (gstrs_one l) (by unfold maxLen; omega) (by omega) (by simp) ?_; intro v2 w2 hown2 hgrow2 _)
    rw [Nat.zero_add, List.nil_append] at hown2
    have HG := Lib.hid (HB.out.grown hgrow2 (by simp) (fun k hk => ((World.ownsRow_made (e := 9) (size := 1) w #[] 0 (Nat.le_refl _) (Nat.zero_le _) rfl).lt k hk).1))
    have HO := Lib.hid hown2
    clear hgrow2 hown2
    go_wp2_with fail
    go_ret
    exact ⟨_, rfl, HO.out, HG.out⟩

theorem info_cloneWG : (Tryz.prog.info? 90).map (fun i => (i.zero, i.size, i.bytes)) = some (some (.agg #[.string ⟨#[]⟩, .int .i64 0]), 2, 24) := by kernel_rfl

theorem cloneWG_any (A : Option Addr) (c : Nat) (l : List Wi) (w : World) (hn : l.length ≤ 16777216) (hA : Cells w A (l.flatMap encWi)) :
    Calls Tryz.prog 155 #[.slice A l.length c] w fun e w' => ∃ u, e = .returned u ∧ w'.ownsRow w.heap.size 90 2 u l.length (l.flatMap encWi) ∧ Below w.heap.size w w' := by
  obtain ⟨i0, hi, hz0, hz1, hz2⟩ := info_parts info_cloneWG
  have qn : ∀ (w : World) (a : Option Addr) (n c n' c' : Nat), (binOp .eql 29 (.slice a n c) (.slice none n' c')).run Tryz.prog w = .ok (.bool a.isNone) w := fun w a n c n' c' => Lib.run_eql_slice_nil w _ _ a n c n' c' Tryz.underlying29
  cases A with
  | none =>
    have h0 : l = [] := by
      cases l with
      | nil => rfl
      | cons x r =>
        obtain ⟨b, o, e, _⟩ := hA.at_ (k := 0) (by simp [encWi])
        cases e
    subst h0
    go_enter Tryz.func155, Tryz.ntmps155
    go_wp2_with fail
    go_ret
    exact ⟨_, rfl, World.ownsRow_nil _ _ _ _, Below.refl _ _⟩
  | some ad =>
    have HC := Lib.hid (show ∀ W, Below w.heap.size w W → Cells W (some ad) (l.flatMap encWi) from fun W hb => hA.below hb)
    clear hA
    have hba : Below w.heap.size w (w.alloc (.cells #[] 90)) := (Below.refl _ _).alloc (Nat.le_refl _) _
    have HB := Lib.hid hba
    clear hba
    go_enter Tryz.func155, Tryz.ntmps155
    go_wp2_with (at_builtin; refine wpList_append_own _ rfl _ _ 29 rfl w.heap.size 90 i0 (.agg #[.string ⟨#[]⟩, .int .i64 0]) 2 24 Tryz.underlying29 hi hz0 hz1 hz2 rfl (by decide) _ _ _ rfl (World.ownsRow_made w #[] 0 (Nat.le_refl _) (Nat.zero_le _) rfl) ad l.length c (l.flatMap encWi) rfl (gwis_len l) (cells_addG (HC.out _ HB.out)) (gwis_one l) (by unfold maxLen; omega) (by omega) (by simp) ?_; intro v2 w2 hown2 hgrow2 _)
    rw [Nat.zero_add, List.nil_append] at hown2
    have HG := Lib.hid (HB.out.grown hgrow2 (by simp) (fun k hk => ((World.ownsRow_made (e := 90) (size := 2) w #[] 0 (Nat.le_refl _) (Nat.zero_le _) rfl).lt k hk).1))
    have HO := Lib.hid hown2
    clear hgrow2 hown2
    go_wp2_with fail
    go_ret
    exact ⟨_, rfl, HO.out, HG.out⟩

end Go.Proofs.YtijkdpdmclkmlaaGreatDoor
