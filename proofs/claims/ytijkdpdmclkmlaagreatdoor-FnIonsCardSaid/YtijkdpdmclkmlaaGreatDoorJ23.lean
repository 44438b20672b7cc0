/- Links that are turned in place: plain lists, and the rows of a built bigraph. No walk. A region that draws its order and ends in one operation that waits for all others (a store): the others are told slot by slot, the last one is walked at the frame that they make. No program is in sight. -/
import Derived.Test.YtijkdpdmclkmlaaGreatDoorProg
import Derived.Test.YtijkdpdmclkmlaaGreatDoorJ21
import Derived.Test.YtijkdpdmclkmlaaGreatDoorJ1
import Derived.Test.YtijkdpdmclkmlaaGreatDoorJ3
import Derived.Lib.Hide
set_option linter.unusedSimpArgs false
set_option linter.unusedVariables false
set_option maxRecDepth 100000
set_option maxHeartbeats 16000000
namespace Go.Proofs.YtijkdpdmclkmlaaGreatDoor
open Go.RowKit
/-- Of the nodes below i all links are turned, of node i the first k. -/
def mixT (f : Int → Int) (l : List Int) (k : Nat) : List Int := (l.take k).map f ++ l.drop k
def turnN (f : Int → Int) (i k j : Nat) (x : Nod) : Nod := (x.1, x.2.1, if j < i then x.2.2.map f else if j = i then mixT f x.2.2 k else x.2.2)
def turnL (f : Int → Int) (ns : List Nod) (i k : Nat) : List Nod := ns.mapIdx (turnN f i k)
def turnW (f : Int → Int) (is : List Wi) (k : Nat) : List Wi := (is.take k).map (fun w => (w.1, f w.2)) ++ is.drop k

section
variable {f : Int → Int}
theorem mixT_len (l : List Int) (k : Nat) : (mixT f l k).length = l.length := by unfold mixT; simp; omega
theorem mixT_zero (l : List Int) : mixT f l 0 = l := by simp [mixT]
theorem mixT_all (l : List Int) : mixT f l l.length = l.map f := by simp [mixT]
theorem mixT_at {l : List Int} {k : Nat} (h : k < l.length) : (mixT f l k)[k]? = some (l.getD k 0) := by
  unfold mixT
  rw [List.getElem?_append_right (by simp; omega), List.length_map, List.length_take, Nat.min_eq_left (by omega), Nat.sub_self, List.getElem?_drop, Nat.add_zero, getD_lt (d := 0) h]
theorem mixT_next {l : List Int} {k : Nat} (h : k < l.length) : (mixT f l k).set k (f (l.getD k 0)) = mixT f l (k + 1) := by
  unfold mixT
  have hd : l.drop k = l.getD k 0 :: l.drop (k + 1) := by
    rw [List.drop_eq_getElem_cons h]
    congr 1
    simp [List.getD, h]
  have ht : l.take (k + 1) = l.take k ++ [l.getD k 0] := by
    rw [List.take_succ_eq_append_getElem h]
    simp [List.getD, h]
  have hl : ((l.take k).map f).length = k := by simp; omega
  rw [List.set_append_right _ _ (by omega), hl, Nat.sub_self, hd, List.set_cons_zero, ht, List.map_append]
  simp
theorem turnL_len (ns : List Nod) (i k : Nat) : (turnL f ns i k).length = ns.length := by simp [turnL]
theorem turnL_get (ns : List Nod) (i k j : Nat) : (turnL f ns i k)[j]? = ns[j]?.map (turnN f i k j) := by simp [turnL]
theorem turnL_at {ns : List Nod} {i k : Nat} {x : Nod} (h : ns[i]? = some x) : (turnL f ns i k)[i]? = some (x.1, x.2.1, mixT f x.2.2 k) := by
  rw [turnL_get, h]
  simp [turnN]
theorem turnL_zero (ns : List Nod) : turnL f ns 0 0 = ns := by
  apply List.ext_getElem?
  intro j
  rw [turnL_get]
  cases h : ns[j]? with
  | none => rfl
  | some x =>
    simp only [Option.map_some, turnN, Nat.not_lt_zero, if_false, mixT_zero, ite_self]
theorem turnL_next {ns : List Nod} {i k : Nat} {x : Nod} (h : ns[i]? = some x) (hk : k < x.2.2.length) : (turnL f ns i k).set i (x.1, x.2.1, (mixT f x.2.2 k).set k (f (x.2.2.getD k 0))) = turnL f ns i (k + 1) := by
  apply List.ext_getElem?
  intro j
  rw [List.getElem?_set, turnL_get, turnL_get, turnL_len]
  by_cases e : i = j
  · subst e
    rw [if_pos rfl, if_pos (List.getElem?_eq_some_iff.1 h).1, h, mixT_next hk]
    simp [turnN]
  rw [if_neg e]
  cases ns[j]? with
  | none => rfl
  | some y => simp [turnN, show ¬ j = i from fun h => e h.symm]
theorem turnL_row {ns : List Nod} {i : Nat} {x : Nod} (h : ns[i]? = some x) : turnL f ns i x.2.2.length = turnL f ns (i + 1) 0 := by
  apply List.ext_getElem?
  intro j
  rw [turnL_get, turnL_get]
  cases h2 : ns[j]? with
  | none => rfl
  | some y =>
    simp only [Option.map_some, turnN]
    congr 3
    rcases Nat.lt_trichotomy j i with hj | hj | hj
    · rw [if_pos hj, if_pos (by omega)]
    · subst hj
      rw [h] at h2
      cases h2
      rw [if_neg (Nat.lt_irrefl _), if_pos rfl, if_pos (by omega), mixT_all]
    rw [if_neg (by omega), if_neg (by omega)]
    by_cases e : j = i + 1
    · rw [if_neg (by omega), if_pos e, mixT_zero]
    rw [if_neg (by omega), if_neg e]
theorem turnL_all (ns : List Nod) : turnL f ns ns.length 0 = ns.map fun x => (x.1, x.2.1, x.2.2.map f) := by
  apply List.ext_getElem?
  intro j
  rw [turnL_get, List.getElem?_map]
  cases h : ns[j]? with
  | none => rfl
  | some x => simp [turnN, (List.getElem?_eq_some_iff.1 h).1]
theorem turnW_len (is : List Wi) (k : Nat) : (turnW f is k).length = is.length := by unfold turnW; simp; omega
theorem turnW_zero (is : List Wi) : turnW f is 0 = is := by simp [turnW]
theorem turnW_all (is : List Wi) : turnW f is is.length = is.map fun w => (w.1, f w.2) := by simp [turnW]
theorem turnW_at {is : List Wi} {k : Nat} (h : k < is.length) : (turnW f is k)[k]? = some (is.getD k wi0) := by
  unfold turnW
  rw [List.getElem?_append_right (by simp; omega), List.length_map, List.length_take, Nat.min_eq_left (by omega), Nat.sub_self, List.getElem?_drop, Nat.add_zero, getD_lt (d := wi0) h]
theorem turnW_next {is : List Wi} {k : Nat} (h : k < is.length) : (turnW f is k).set k ((is.getD k wi0).1, f (is.getD k wi0).2) = turnW f is (k + 1) := by
  unfold turnW
  have hd : is.drop k = is.getD k wi0 :: is.drop (k + 1) := by
    rw [List.drop_eq_getElem_cons h]
    congr 1
    simp [List.getD, h]
  have ht : is.take (k + 1) = is.take k ++ [is.getD k wi0] := by
    rw [List.take_succ_eq_append_getElem h]
    simp [List.getD, h]
  have hl : ((is.take k).map fun w : Wi => (w.1, f w.2)).length = k := by simp; omega
  rw [List.set_append_right _ _ (by omega), hl, Nat.sub_self, hd, List.set_cons_zero, ht, List.map_append]
  simp
end

theorem ncells_lnk : ∀ {ns : List Nod} {ls : List Value} {i : Nat} {x : Nod} (l2 : List Int), ns[i]? = some x → ncells (ns.set i (x.1, x.2.1, l2)) ls = ncells ns ls
  | [], _, _, _, _, h => by simp at h
  | _ :: _, [], 0, _, _, _ => rfl
  | _ :: _, [], _ + 1, _, _, _ => rfl
  | y :: ns, m :: ls, 0, x, l2, h => by
    simp at h
    subst h
    rfl
  | y :: ns, m :: ls, i + 1, x, l2, h => by
    have := ncells_lnk (ns := ns) (ls := ls) (i := i) (x := x) l2 (by simpa using h)
    simp only [List.set_cons_succ, ncells, this]
theorem wis_set : ∀ {is : List Wi} {k : Nat} {x : Wi} (v : Int), is[k]? = some x → (is.flatMap encWi).set (k * 2 + 1) (.int .i64 v) = (is.set k (x.1, v)).flatMap encWi
  | [], _, _, _, h => by simp at h
  | y :: is, 0, x, v, h => by
    simp at h
    subst h
    rfl
  | y :: is, k + 1, x, v, h => by
    have := wis_set (is := is) (k := k) (x := x) v (by simpa using h)
    rw [show (k + 1) * 2 + 1 = k * 2 + 1 + 1 + 1 by omega]
    simp only [List.flatMap_cons, List.set_cons_succ, encWi, List.cons_append, List.nil_append]
    congr 2

section
variable {w W W' : World} {B P : Nat} {bx : Array Value} {X : BX}
/-- A link of a node is stored. -/
theorem GT.setL (h : GT w B P bx X W) {i k g c : Nat} {x : Nod} (hx : X.ns[i]? = some x) (hl : X.ls[i]? = some (.slice (some ⟨g, 0, none⟩) x.2.2.length c)) (v : Int) : GT w B P bx { X with ns := X.ns.set i (x.1, x.2.1, x.2.2.set k v) } (W.setCell ⟨g, k, none⟩ (.int .i64 v)) := by
  have hr := h.ob.N.lk i _ x hl hx
  have hK : Kept (fun q => q = g) W (W.setCell ⟨g, k, none⟩ (.int .i64 v)) := (Kept.refl _ W).setCell (S := fun q => q = g) (p := ⟨g, k, none⟩) rfl _
  have hog : (Value.slice (some ⟨g, 0, none⟩) x.2.2.length c).ownBlock = some g := rfl
  have hBg := (hr.lt g hog).1
  have hil := (List.getElem?_eq_some_iff.1 hx).1
  refine { k := h.k.trans (hK.mono fun b hb => .inr (by omega)), box := (hK.block P (Array.getElem?_eq_some_iff.1 h.box).1 (fun e => ownsT hr h.box (by decide) (by rw [e]; rfl))).trans h.box
           ob := { N := { own := ?_, len := by show X.ls.length = (X.ns.set i _).length; rw [List.length_set]; exact h.ob.N.len, lk := fun j l y hjl hy => ?_, dis := h.ob.N.dis, sep := h.ob.N.sep }
                   S := ownsK h.ob.S hK (fun q hq e => by subst e; exact h.ob.N.sep i _ q hl rfl hq)
                   O := ownsK h.ob.O hK (fun q hq e => by subst e; exact ownsA h.ob.O hr (by decide) q hq hog), I := ownsK h.ob.I hK (fun q hq e => by subst e; exact ownsA h.ob.I hr (by decide) q hq hog) } }
  · show (W.setCell _ _).ownsRow B 88 3 X.nv (X.ns.set i (x.1, x.2.1, x.2.2.set k v)).length (ncells (X.ns.set i (x.1, x.2.1, x.2.2.set k v)) X.ls)
    rw [List.length_set, ncells_lnk _ hx]
    exact ownsK h.ob.N.own hK (fun q hq e => by subst e; exact ownsA h.ob.N.own hr (by decide) q hq hog)
  replace hjl : X.ls[j]? = some l := hjl
  replace hy : (X.ns.set i (x.1, x.2.1, x.2.2.set k v))[j]? = some y := hy
  rw [List.getElem?_set] at hy
  by_cases e : i = j
  · subst e
    rw [if_pos rfl, if_pos hil] at hy
    cases hy
    rw [hl] at hjl
    cases hjl
    have hs := (hr.stored k (.int .i64 v)).1
    show (W.setCell _ _).ownsRow B 3 1 _ (x.2.2.set k v).length (ints (x.2.2.set k v))
    rw [List.length_set, show ints (x.2.2.set k v) = (ints x.2.2).set k (.int .i64 v) from by unfold ints; rw [List.map_set]]
    exact hs
  rw [if_neg e] at hy
  have hr2 := h.ob.N.lk j l y hjl hy
  refine ownsK hr2 hK (fun q hq e2 => ?_)
  subst e2
  rcases Nat.lt_or_gt_of_ne e with e | e
  · exact h.ob.N.dis i j _ l q e hl hjl rfl hq
  exact h.ob.N.dis j i l _ q e hjl hl hq rfl
/-- The link of an inner name is stored. -/
theorem GT.setW (h : GT w B P bx X W) {k g c : Nat} {x : Wi} (hx : X.is[k]? = some x) (hl : X.iv = .slice (some ⟨g, 0, none⟩) X.is.length c) (v : Int) : GT w B P bx { X with is := X.is.set k (x.1, v) } (W.setCell ⟨g, k * 2 + 1, none⟩ (.int .i64 v)) := by
  have hr := h.ob.I
  have hog : X.iv.ownBlock = some g := by rw [hl]; rfl
  have hK : Kept (fun q => q = g) W (W.setCell ⟨g, k * 2 + 1, none⟩ (.int .i64 v)) := (Kept.refl _ W).setCell (S := fun q => q = g) (p := ⟨g, k * 2 + 1, none⟩) rfl _
  have hBg := (hr.lt g hog).1
  refine { k := h.k.trans (hK.mono fun b hb => .inr (by omega)), box := (hK.block P (Array.getElem?_eq_some_iff.1 h.box).1 (fun e => ownsT hr h.box (by decide) (by rw [hog, e]))).trans h.box
           ob := { N := h.ob.N.kept hK (fun q hq e => by subst e; exact ownsA h.ob.N.own hr (by decide) q hq hog) (fun i l q hl hq e => by obtain ⟨y, _, hy⟩ := h.ob.N.lkown hl; subst e; exact ownsA hy hr (by decide) q hq hog)
                   S := ownsK h.ob.S hK (fun q hq e => by subst e; exact ownsA h.ob.S hr (by decide) q hq hog), O := ownsK h.ob.O hK (fun q hq e => by subst e; exact ownsA h.ob.O hr (by decide) q hq hog), I := ?_ } }
  show (W.setCell _ _).ownsRow B 90 2 X.iv (X.is.set k (x.1, v)).length ((X.is.set k (x.1, v)).flatMap encWi)
  rw [List.length_set, ← wis_set v hx, hl]
  rw [hl] at hr
  exact (hr.stored (k * 2 + 1) (.int .i64 v)).1
/-- The links' row of a node, and its cells. -/
theorem GT.lrow (h : GT w B P bx X W) {i : Nat} {x : Nod} (hx : X.ns[i]? = some x) : ∃ g cc A c, X.nv = .slice (some ⟨g, 0, none⟩) X.ns.length cc ∧ X.ls[i]? = some (.slice A x.2.2.length c) ∧ W.cell? ⟨g, i * 3, none⟩ = some (.int .i64 x.1) ∧ W.cell? ⟨g, i * 3 + 1, none⟩ = some (.int .i64 x.2.1) ∧ W.cell? ⟨g, i * 3 + 2, none⟩ = some (.slice A x.2.2.length c) ∧ W.ownsRow B 3 1 (.slice A x.2.2.length c) x.2.2.length (ints x.2.2) := by
  have hil := (List.getElem?_eq_some_iff.1 hx).1
  have hxe := (List.getElem?_eq_some_iff.1 hx).2
  obtain ⟨g, cc, l, e, hl, c0, c1, c2⟩ := h.ob.N.nr.cells hil
  have hr := h.ob.N.lk i l x hl hx
  obtain ⟨A, c, rfl, hr⟩ := owns_form hr
  rw [hxe] at c0 c1
  exact ⟨g, cc, A, c, e, hl, c0, c1, c2, hr⟩
end

/-- A goal that no tactic unfolds. -/
structure Shut (p : Prop) : Prop where
  out : p

/-- The last operation waits for each other one. -/
def lastB (ops : Array Oper) (n : Nat) : Bool := ops.size == n + 1 && (List.range n).all fun i => reachB ops (n + 1) n i

section
variable {P : Program} {Q : Exit → Act → World → Prop} {id : Nat} {ops : Array Oper} {a : Act} {w : World}

def TJ (ops : Array Oper) (slots : List (Option Tmp)) (a : Act) (w : World) (R : Nat → Value → World → Prop) (n : Nat) (Q : Exit → Act → World → Prop) (L : Nat → Bool) (act : Act) (W : World) : Prop :=
  (L n = true → Q .normal act W) ∧ (L n = false → VJ ops slots a w R L act W)

theorem wp_region_tail (hm : P.follows .mixedOrders = true) (n : Nat) (o0 : Oper) (hon0 : ops[n]? = some o0) (slots : List (Option Tmp)) (R : Nat → Value → World → Prop)
    (hsl : ops.toList.map (·.dst) = slots) (hok : slotsOk ops slots a.tmps.size = true) (hlast : lastB ops n = true) (hnone : slots[n]? = some none)
    (hR : ∀ q v W W', Below W.heap.size W W' → R q v W → R q v W')
    (step : ∀ (L : Nat → Bool) (act : Act) (W : World) (q : Nat) (o : Oper), VJ ops slots a w R L act W → q ≠ n → ops[q]? = some o → (∀ e ∈ o.after, Region.binds .any e = true → L e.on = true) →
      ∀ K' : Act → World → Prop, (∀ v W', Below W.heap.size W W' → R q v W' → K' (act.put o.dst v) W') → if Region.wanted o (yielded ops act.tmps) = true then Oper.wp P o act W K' Q else K' (act.put o.dst undef) W)
    (tail : ∀ (V : Nat → Value) (W : World), Below w.heap.size w W → (∀ q s, slots[q]? = some (some s) → R q (V q) W) →
      ∀ K' : Act → World → Prop, (∀ W', Q .normal ⟨layV V 0 slots a.tmps, a.defers⟩ W' → K' ⟨layV V 0 slots a.tmps, a.defers⟩ W') →
        Shut (if Region.wanted o0 (yielded ops (layV V 0 slots a.tmps)) = true then Oper.wp P o0 ⟨layV V 0 slots a.tmps, a.defers⟩ W K' Q else K' ⟨layV V 0 slots a.tmps, a.defers⟩ W)) :
    (Code.region id ops true).wp P Q a w := by
  unfold slotsOk at hok
  simp only [Bool.and_eq_true] at hok
  obtain ⟨⟨hnd, hin⟩, hearly⟩ := hok
  unfold lastB at hlast
  simp only [Bool.and_eq_true, beq_iff_eq] at hlast
  obtain ⟨hsz, hall⟩ := hlast
  have hlen : slots.length = ops.size := by rw [← hsl]; simp
  have hslot : ∀ (q : Nat) (o : Oper), ops[q]? = some o → slots[q]? = some o.dst := fun q o ho => by
    rw [← hsl, List.getElem?_map, Array.getElem?_toList, ho]; rfl
  have hbnd : ∀ (k : Nat) (o : Oper), ops[k]? = some o → ∀ e ∈ o.after, Region.binds .any e = true → e.on < ops.size := fun k o ho e he hb => by
    have hk := (Array.getElem?_eq_some_iff.1 ho).1
    have h1 := hearly
    unfold earlyB at h1
    rw [List.all_eq_true] at h1
    have h2 := h1 k (List.mem_range.2 hk)
    rw [List.all_eq_true] at h2
    have h3 := h2 e (by rw [Array.getD_eq_getD_getElem?, ho]; exact Array.mem_toList_iff.2 he)
    rw [hb] at h3
    have h4 : e.on < k := by simpa using h3
    omega
  have hreach : ∀ i, i < n → reachB ops (n + 1) n i = true := fun i hi => by
    rw [List.all_eq_true] at hall
    exact hall i (List.mem_range.2 hi)
  have hon : ops[n]? = some (ops[n]'(by omega)) := Array.getElem?_eq_getElem _
  refine wp_region_dc hm (fun L act W => TJ ops slots a w R n Q L act W) ?_ ?_ ?_
  · exact ⟨fun h => (nomatch h), fun _ => { bel := (Below.refl _ _).drew, df := rfl, sz := rfl, out := fun _ _ => rfl, has := fun _ _ h => nomatch h }⟩
  · intro L act W q o hJ hC hL ho hd K' hK'
    have hqs : q < ops.size := (Array.getElem?_eq_some_iff.1 ho).1
    by_cases hqn : q = n
    · subst hqn
      have hJ := hJ.2 hL
      have hup : ∀ i, i < q → L i = true := fun i hi => by
        have hr := hreach i hi
        simp only [reachB, Bool.or_eq_true, beq_iff_eq] at hr
        rcases hr with hr | hr
        · omega
        obtain ⟨e, he, hb⟩ := List.any_eq_true.1 hr
        simp only [Bool.and_eq_true] at hb
        rw [Array.getD_eq_getD_getElem?, ho] at he
        have he' : e ∈ o.after := Array.mem_toList_iff.1 he
        exact dc_reach hC _ e.on i (hbnd _ _ ho e he' hb.1) hbnd (hd e he' hb.1) hb.2
      have hlt : ∀ {i s}, slots[i]? = some (some s) → i < q := fun {i s} h => by
        have h1 := (List.getElem?_eq_some_iff.1 h).1
        have h2 : i ≠ q := fun e => by subst e; rw [hnone] at h; cases h
        omega
      let V : Nat → Value := fun q => match slots[q]? with
        | some (some s) => act.tmps[s]?.getD undef
        | _ => undef
      have hV : ∀ q s, slots[q]? = some (some s) → act.tmps[s]? = some (V q) ∧ R q (V q) W := fun q s hs => by
        obtain ⟨v, h1, h2⟩ := hJ.has q s (hup q (hlt hs)) hs
        have e : V q = v := by
          show (match slots[q]? with | some (some s) => act.tmps[s]?.getD undef | _ => undef) = v
          rw [hs]
          show act.tmps[s]?.getD undef = v
          rw [h1]
          rfl
        rw [e]
        exact ⟨h1, h2⟩
      have hact : act = ⟨layV V 0 slots a.tmps, a.defers⟩ := by
        have ht : act.tmps = layV V 0 slots a.tmps := by
          apply Array.ext_getElem?
          intro s
          by_cases hs : some s ∈ slots
          · obtain ⟨q, hq, e⟩ := List.getElem_of_mem hs
            have hqs : slots[q]? = some (some s) := by rw [List.getElem?_eq_getElem hq, e]
            rw [(hV q s hqs).1, layV_in hnd hqs (inO_at hin hqs), Nat.zero_add]
          rw [hJ.out s hs, layV_out hs]
        show (⟨act.tmps, act.defers⟩ : Act) = _
        rw [hJ.df]
        exact congrArg (fun t => (⟨t, a.defers⟩ : Act)) ht
      obtain rfl : o = o0 := by rw [hon0] at ho; injection ho with ho; exact ho.symm
      have hdst : o.dst = none := by
        have h := hslot q o ho
        rw [hnone] at h
        injection h with h
        exact h.symm
      have ht := (tail V W hJ.bel (fun q s hs => (hV q s hs).2) K' fun W' hQ => hK' _ _ ⟨fun _ => hQ, (fun h => absurd h (by rw [upd_same]; exact fun h => nomatch h))⟩).out
      rw [hdst, hact]
      exact ht
    have hLn : L n = false := by
      cases h : L n
      · rfl
      rw [dc_reach hC _ n q (by omega) hbnd h (hreach q (by omega))] at hL
      cases hL
    have hJ := hJ.2 hLn
    refine step L act W q o hJ hqn ho hd K' fun v W' hb hr => hK' _ _ ⟨(fun h => absurd h (by rw [upd_other (fun e => hqn e.symm), hLn]; exact Bool.false_ne_true)), fun _ => ?_⟩
    have hsq := hslot q o ho
    cases hdst : o.dst with
    | none =>
      rw [hdst] at hsq
      refine { bel := hJ.bel.trans (hb.mono hJ.bel.size), df := hJ.df, sz := hJ.sz, out := hJ.out, has := fun e s he hs => ?_ }
      have hne : e ≠ q := fun h => by subst h; rw [hsq] at hs; cases hs
      obtain ⟨u, h1, h2⟩ := hJ.has e s (by rw [upd_other hne] at he; exact he) hs
      exact ⟨u, h1, hR _ _ _ _ hb h2⟩
    | some d =>
      rw [hdst] at hsq
      have hdz : d < act.tmps.size := by rw [hJ.sz]; exact inO_at hin hsq
      refine { bel := hJ.bel.trans (hb.mono hJ.bel.size), df := hJ.df, sz := by show (act.tmps.setIfInBounds d v).size = _; rw [Array.size_setIfInBounds]; exact hJ.sz, out := fun s hs => ?_, has := fun e s he hs => ?_ }
      · have hne : d ≠ s := fun h => hs (by subst h; exact List.mem_of_getElem? hsq)
        show (act.tmps.setIfInBounds d v)[s]? = _
        rw [Array.getElem?_setIfInBounds_ne hne]
        exact hJ.out s hs
      show ∃ u, (act.tmps.setIfInBounds d v)[s]? = some u ∧ _
      by_cases heq : e = q
      · subst heq
        rw [hsq] at hs
        injection hs with hs
        injection hs with hs
        subst hs
        exact ⟨v, Array.getElem?_setIfInBounds_self_of_lt hdz, hr⟩
      obtain ⟨u, h1, h2⟩ := hJ.has e s (by rw [upd_other heq] at he; exact he) hs
      have hne : d ≠ s := fun h => by subst h; exact heq (nodupO_at hnd hs hsq)
      exact ⟨u, by rw [Array.getElem?_setIfInBounds_ne hne]; exact h1, hR _ _ _ _ hb h2⟩
  intro L act W hJ hfin
  have hallL : ∀ m q, q < m → q < ops.size → L q = true := by
    intro m
    induction m with
    | zero => intro q h; omega
    | succ m ih =>
      intro q hq hqs
      cases hl : L q with
      | true => rfl
      | false =>
        obtain ⟨e, he, hb, hon⟩ := hfin q _ (Array.getElem?_eq_getElem hqs) hl
        have h1 := hearly
        unfold earlyB at h1
        rw [List.all_eq_true] at h1
        have h2 := h1 q (List.mem_range.2 hqs)
        rw [List.all_eq_true] at h2
        have h3 := h2 e (by rw [Array.getD_eq_getD_getElem?, Array.getElem?_eq_getElem hqs]; exact Array.mem_toList_iff.2 he)
        rw [hb] at h3
        simp at h3
        rw [ih e.on (by omega) (by omega)] at hon
        cases hon
  exact hJ.1 (hallL (n + 1) n (Nat.lt_succ_self _) (by omega))
end

end Go.Proofs.YtijkdpdmclkmlaaGreatDoor
