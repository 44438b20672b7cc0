/- Signatures and bigraphs in memory: how they are read. No program is in sight. The laws' own helpers over lists of numbers: rInts, rHas, rBig, rTexts. A region that draws its order, by what holds while it is under way: each operation is shown once, whatever came before it. No program is in sight. A region that draws its order and writes nothing that is there: told slot by slot, by what each operation gives; the frame is made at the end. No program is in sight. -/
import Derived.Test.YtijkdpdmclkmlaaGreatDoorJ0
import Derived.Test.YtijkdpdmclkmlaaGreatDoorProg
import Derived.RegionTactic
import Derived.WalkKit
import Derived.NoCompiler
set_option linter.unusedSimpArgs false
set_option linter.unusedVariables false
set_option maxRecDepth 100000
set_option maxHeartbeats 16000000
namespace Go.Proofs.YtijkdpdmclkmlaaGreatDoor
open Go.RowKit
abbrev Ct := ByteArray × Int × Int
def encCt (c : Ct) : List Value := [.string c.1, .int .i64 c.2.1, .int .i64 c.2.2]
def RCt (_ : World) (cs : List Value) (c : Ct) : Prop := cs = encCt c
theorem RCt_keep : KeepR RCt := fun _ _ _ _ h _ => h

/-- A node: its control, its parent, its links. -/
abbrev Nod := Int × Int × List Int
def RNod (w : World) (cs : List Value) (x : Nod) : Prop := ∃ A c, cs = [.int .i64 x.1, .int .i64 x.2.1, .slice A x.2.2.length c] ∧ Cells w A (ints x.2.2)
theorem RNod_keep : KeepR RNod := fun w w' cs x h hb => by
  obtain ⟨A, c, e, hc⟩ := h
  exact ⟨A, c, e, hc.below hb⟩

abbrev Wi := ByteArray × Int
def encWi (x : Wi) : List Value := [.string x.1, .int .i64 x.2]
def RWi (_ : World) (cs : List Value) (x : Wi) : Prop := cs = encWi x
theorem RWi_keep : KeepR RWi := fun _ _ _ _ h _ => h

abbrev strs (ls : List ByteArray) : List Value := ls.map Value.string
theorem getElem?_strs (ls : List ByteArray) (j : Nat) (h : j < ls.length) : (strs ls)[j]? = some (.string (ls.getD j default)) := by
  simp [strs, List.getD, h]
theorem Cells.str {w : World} {A : Option Addr} {ls : List ByteArray} (h : Cells w A (strs ls)) {k : Nat} (hk : k < ls.length) :
    ∃ b o, A = some ⟨b, o, none⟩ ∧ ∀ j, j < ls.length → w.cell? ⟨b, o + j, none⟩ = some (.string (ls.getD j default)) := by
  obtain ⟨b, o, e, hc⟩ := h.at_ (k := k) (by simpa [strs] using hk)
  exact ⟨b, o, e, fun j hj => hc j _ (getElem?_strs ls j hj)⟩

structure Gr where
  roots : Int
  nodes : List Nod
  sites : List Int
  edges : Int
  outer : List ByteArray
  inner : List Wi

/-- The bigraph's value reads as g: nodes, sites, outer names and inner names by their slices. -/
structure RGr (w : World) (nv sv ov iv : Value) (g : Gr) : Prop where
  n : RSl RNod 3 w nv g.nodes
  s : ∃ A c, sv = .slice A g.sites.length c ∧ Cells w A (ints g.sites)
  o : ∃ A c, ov = .slice A g.outer.length c ∧ Cells w A (strs g.outer)
  i : RSl RWi 2 w iv g.inner

/-- How large a signature is that the draws give, and a bigraph. -/
structure SmallS (l : List Ct) : Prop where
  len : l.length ≤ 1000
  name : ∀ c ∈ l, c.1.size ≤ 1000
structure SmallG (g : Gr) : Prop where
  nodes : g.nodes.length ≤ 1000
  links : ∀ x ∈ g.nodes, x.2.2.length ≤ 1000
  sites : g.sites.length ≤ 1000
  outer : g.outer.length ≤ 1000
  onames : ∀ s ∈ g.outer, s.size ≤ 1000
  inner : g.inner.length ≤ 1000
  inames : ∀ x ∈ g.inner, x.1.size ≤ 1000
  edges : -1000 ≤ g.edges ∧ g.edges ≤ 1000
  roots : -1000 ≤ g.roots ∧ g.roots ≤ 1000
  pars : ∀ x ∈ g.nodes, -9223372036854775808 ≤ x.2.1
  sits : ∀ p ∈ g.sites, -9223372036854775808 ≤ p

section
variable {w w' : World} {nv sv ov iv v : Value} {g : Gr}
theorem RGr.below (h : RGr w nv sv ov iv g) (hb : Below w.heap.size w w') : RGr w' nv sv ov iv g := by
  obtain ⟨h1, ⟨A, c, e, h2⟩, ⟨B, d, e', h3⟩, h4⟩ := h
  exact ⟨h1.below RNod_keep hb, ⟨A, c, e, h2.below hb⟩, ⟨B, d, e', h3.below hb⟩, h4.below RWi_keep hb⟩
theorem RGr.form (h : RGr w nv sv ov iv g) : ∃ AN cN AS cS AO cO AI cI, nv = .slice AN g.nodes.length cN ∧ sv = .slice AS g.sites.length cS ∧ ov = .slice AO g.outer.length cO ∧ iv = .slice AI g.inner.length cI := by
  obtain ⟨h1, ⟨A, c, e, h2⟩, ⟨B, d, e', h3⟩, h4⟩ := h
  obtain ⟨AN, cN, e1, _⟩ := h1.form
  obtain ⟨AI, cI, e2, _⟩ := h4.form
  exact ⟨AN, cN, A, c, B, d, AI, cI, e1, e, e', e2⟩

theorem ct_at {l : List Ct} (h : RSl RCt 3 w v l) {k : Nat} (hk : k < l.length) : ∃ b o c, v = .slice (some ⟨b, o, none⟩) l.length c ∧
    w.cell? ⟨b, o + k * 3, none⟩ = some (.string l[k].1) ∧ w.cell? ⟨b, o + k * 3 + 1, none⟩ = some (.int .i64 l[k].2.1) ∧ w.cell? ⟨b, o + k * 3 + 2, none⟩ = some (.int .i64 l[k].2.2) := by
  obtain ⟨b, o, c, cs, ev, hl, hr, hc⟩ := h.at_ (by decide) (List.getElem?_eq_getElem hk)
  subst hr
  refine ⟨b, o, c, ev, ?_, ?_, ?_⟩
  · exact hc 0 _ rfl
  · exact hc 1 _ rfl
  exact hc 2 _ rfl
theorem nod_at {l : List Nod} (h : RSl RNod 3 w v l) {k : Nat} (hk : k < l.length) : ∃ b o c A d, v = .slice (some ⟨b, o, none⟩) l.length c ∧
    w.cell? ⟨b, o + k * 3, none⟩ = some (.int .i64 l[k].1) ∧ w.cell? ⟨b, o + k * 3 + 1, none⟩ = some (.int .i64 l[k].2.1) ∧ w.cell? ⟨b, o + k * 3 + 2, none⟩ = some (.slice A l[k].2.2.length d) ∧ Cells w A (ints l[k].2.2) := by
  obtain ⟨b, o, c, cs, ev, hl, ⟨A, d, hr, hA⟩, hc⟩ := h.at_ (by decide) (List.getElem?_eq_getElem hk)
  subst hr
  refine ⟨b, o, c, A, d, ev, ?_, ?_, ?_, hA⟩
  · exact hc 0 _ rfl
  · exact hc 1 _ rfl
  exact hc 2 _ rfl
theorem wi_at {l : List Wi} (h : RSl RWi 2 w v l) {k : Nat} (hk : k < l.length) : ∃ b o c, v = .slice (some ⟨b, o, none⟩) l.length c ∧
    w.cell? ⟨b, o + k * 2, none⟩ = some (.string l[k].1) ∧ w.cell? ⟨b, o + k * 2 + 1, none⟩ = some (.int .i64 l[k].2) := by
  obtain ⟨b, o, c, cs, ev, hl, hr, hc⟩ := h.at_ (by decide) (List.getElem?_eq_getElem hk)
  subst hr
  refine ⟨b, o, c, ev, ?_, ?_⟩
  · exact hc 0 _ rfl
  exact hc 1 _ rfl
end

set_option maxHeartbeats 1000000 in
theorem rInts_any (A B : Option Addr) (c d : Nat) (xs ys : List Int) (w : World) (hn : xs.length ≤ 16777216) (hm : ys.length ≤ 16777216) (hA : Cells w A (ints xs)) (hB : Cells w B (ints ys)) :
    Calls Tryz.prog 133 #[.slice A xs.length c, .slice B ys.length d] w fun e w' => e = .returned (.bool (sameI xs ys)) ∧ Below w.heap.size w w' := by
  by_cases hl : xs.length = ys.length
  · have hl' : ((xs.length : Int) == (ys.length : Int)) = true := by simp [hl]
    have hl'' : ((xs.length : Int) != (ys.length : Int)) = false := by simp [hl]
    have HL := Lib.hid hl
    clear hl
    go_enter Tryz.func133, Tryz.ntmps133
    go_wp2
    go_loopw [5] (fun i wr => ∃ k : Nat, k ≤ xs.length ∧ i = .int .i64 k ∧ (∀ j, j < k → xs.getD j 0 = ys.getD j 0) ∧ Below w.heap.size w wr)
      (fun i _ => xs.length - (intOf i).toNat)
    case atStart => exact ⟨0, Nat.zero_le _, rfl, fun j hj => by omega, Below.refl _ _⟩
    obtain ⟨k, hk, rfl, hsame, hbel⟩ := hrel
    have HS := Lib.hid hsame
    clear hsame
    by_cases hlt : k < xs.length
    · have hlt2 : k < ys.length := by have := HL.out; omega
      obtain ⟨b, o, rfl, hc⟩ := (hA.below hbel).int hlt
      have hck := hc k hlt
      obtain ⟨b', o', rfl, hc'⟩ := (hB.below hbel).int hlt2
      have hck' := hc' k hlt2
      clear hc hc' hA hB
      by_cases hx : xs.getD k 0 = ys.getD k 0
      · have HX := Lib.hid hx
        have hb0 : (xs.getD k 0 != ys.getD k 0) = false := by rw [hx, bne_self_eq_false]
        clear hx
        obtain ⟨x, ex⟩ : ∃ x, x = xs.getD k 0 := ⟨_, rfl⟩
        obtain ⟨y, ey⟩ : ∃ y, y = ys.getD k 0 := ⟨_, rfl⟩
        rw [← ex] at hck hb0
        rw [← ey] at hck' hb0
        clear ex ey
        go_wp2
        go_quiet (fail)
        go_wp2
        go_roundw
        case rel =>
          refine ⟨k + 1, by omega, by go_num, fun j hj => ?_, below_drewN' hbel _⟩
          rcases Nat.lt_succ_iff_lt_or_eq.1 hj with h | h
          · exact HS.out j h
          rw [h]; exact HX.out
        case measure => simp [intOf]; omega
      have E := sameI_at hx
      have HE := Lib.hid E
      have hb0 : (xs.getD k 0 != ys.getD k 0) = true := by rw [bne_iff_ne]; exact hx
      clear hx E
      obtain ⟨x, ex⟩ : ∃ x, x = xs.getD k 0 := ⟨_, rfl⟩
      obtain ⟨y, ey⟩ : ∃ y, y = ys.getD k 0 := ⟨_, rfl⟩
      rw [← ex] at hck hb0
      rw [← ey] at hck' hb0
      clear ex ey
      go_wp2
      go_quiet (fail)
      go_wp2
      go_ret
      exact ⟨by rw [HE.out]; rfl, below_drewN' hbel _⟩
    obtain rfl : k = xs.length := by omega
    have E := sameI_all HL.out HS.out
    have HE := Lib.hid E
    clear E
    go_wp2
    go_ret
    exact ⟨by rw [HE.out]; rfl, hbel⟩
  have hl' : ((xs.length : Int) == (ys.length : Int)) = false := by rw [beq_eq_false_iff_ne]; omega
  have hl'' : ((xs.length : Int) != (ys.length : Int)) = true := by rw [bne_iff_ne]; omega
  have HE := Lib.hid (sameI_len hl)
  clear hl
  go_enter Tryz.func133, Tryz.ntmps133
  go_wp2
  go_ret
  exact ⟨by rw [HE.out]; rfl, Below.refl _ _⟩

theorem rBig_any (A : Option Addr) (n c : Nat) (w : World) (hn : n ≤ maxLen) :
    Calls Tryz.prog 50 #[.slice A n c] w fun e w' => e = .returned (.bool (decide (65536 < n))) ∧ w = w' := by
  by_cases h : 65536 < n
  · have h' : (65536 : Int) < (n : Int) := by omega
    go_enter Tryz.func50, Tryz.ntmps50
    go_wp2
    go_ret
    exact ⟨by simp [h], rfl⟩
  have h' : ¬ (65536 : Int) < (n : Int) := by omega
  go_enter Tryz.func50, Tryz.ntmps50
  go_wp2
  go_ret
  exact ⟨by simp [h], rfl⟩

theorem bne_sameB (x : ByteArray) : (x != x) = false := by
  cases h : (x != x)
  · rfl
  exact absurd h (by simp [bne, BEq.beq]; unfold ByteArray.beq; simp)

set_option maxHeartbeats 1000000 in
theorem rTexts_same (A B : Option Addr) (c d : Nat) (xs : List ByteArray) (w : World) (hn : xs.length ≤ 16777216) (hA : Cells w A (strs xs)) (hB : Cells w B (strs xs)) :
    Calls Tryz.prog 134 #[.slice A xs.length c, .slice B xs.length d] w fun e w' => e = .returned (.bool true) ∧ Below w.heap.size w w' := by
  go_enter Tryz.func134, Tryz.ntmps134
  go_wp2
  go_loopw [5] (fun i wr => ∃ k : Nat, k ≤ xs.length ∧ i = .int .i64 k ∧ Below w.heap.size w wr)
    (fun i _ => xs.length - (intOf i).toNat)
  case atStart => exact ⟨0, Nat.zero_le _, rfl, Below.refl _ _⟩
  obtain ⟨k, hk, rfl, hbel⟩ := hrel
  by_cases hlt : k < xs.length
  · obtain ⟨b, o, rfl, hc⟩ := (hA.below hbel).str hlt
    have hck := hc k hlt
    obtain ⟨b', o', rfl, hc'⟩ := (hB.below hbel).str hlt
    have hck' := hc' k hlt
    clear hc hc' hA hB
    obtain ⟨x, ex⟩ : ∃ x, x = xs.getD k default := ⟨_, rfl⟩
    rw [← ex] at hck hck'
    clear ex
    have hb0 : (x != x) = false := bne_sameB x
    go_wp2
    go_quiet (fail)
    go_wp2
    go_roundw
    case rel => exact ⟨k + 1, by omega, by go_num, below_drewN' hbel _⟩
    case measure => simp [intOf]; omega
  obtain rfl : k = xs.length := by omega
  go_wp2
  go_ret
  exact ⟨rfl, hbel⟩

/-- One operation more has come up. -/
def upd (L : Nat → Bool) (i : Nat) : Nat → Bool := fun j => if j = i then true else L j
theorem upd_same (L : Nat → Bool) (i : Nat) : upd L i i = true := by simp [upd]
theorem upd_other {L : Nat → Bool} {i j : Nat} (h : j ≠ i) : upd L i j = L j := by simp [upd, h]

theorem count_set {l : List Bool} {i : Nat} (h : l[i]? = some false) : (l.set i true).count false + 1 = l.count false := by
  induction l generalizing i with
  | nil => simp at h
  | cons a l ih =>
    cases i with
    | zero =>
      simp at h
      subst h
      simp [List.count_cons]
    | succ i =>
      have := ih (by simpa using h)
      simp only [List.set_cons_succ, List.count_cons]
      omega

/-- A slot's value: the new one if its operation has come up. -/
def bsel {α : Type} (b : Bool) (x y : α) : α := if b then x else y
theorem bsel_t {α : Type} (x y : α) : bsel true x y = x := rfl

section
variable {P : Program} {md : Region.Mode} {ops : Array Oper} {Q : Exit → Act → World → Prop}

theorem wpAny_inv (J : (Nat → Bool) → Act → World → Prop)
    (step : ∀ (L : Nat → Bool) (a : Act) (w : World) (i : Nat) (o : Oper), J L a w → L i = false → ops[i]? = some o → (∀ e ∈ o.after, Region.binds md e = true → L e.on = true) →
      ∀ K' : Act → World → Prop, (∀ a' w', J (upd L i) a' w' → K' a' w') → if Region.wanted o (yielded ops a.tmps) = true then Oper.wp P o a w K' Q else K' (a.put o.dst undef) w)
    (fin : ∀ (L : Nat → Bool) (a : Act) (w : World), J L a w → (∀ i o, ops[i]? = some o → L i = false → ∃ e ∈ o.after, Region.binds md e = true ∧ L e.on = false) → Q .normal a w) :
    ∀ (fuel : Nat) (listed : Array Bool) (a : Act) (w : World), listed.size = ops.size → listed.toList.count false ≤ fuel → J (fun i => listed.getD i false) a w → wpAny P md ops Q fuel listed a w := by
  have hfin : ∀ (listed : Array Bool) (a : Act) (w : World), listed.size = ops.size → J (fun i => listed.getD i false) a w → Region.ready md ops listed = [] → Q .normal a w := fun listed a w hs hJ hr => by
    refine fin _ a w hJ fun i o ho hi => ?_
    have hil : i < listed.size := by rw [hs]; exact (Array.getElem?_eq_some_iff.1 ho).1
    refine Classical.byContradiction fun hn => ?_
    have hm : i ∈ Region.ready md ops listed := mem_ready.2 ⟨by simpa [hil] using hi, o, ho, fun e he hb => by
      cases hx : listed.getD e.on false
      · exact absurd ⟨e, he, hb, hx⟩ hn
      rfl⟩
    rw [hr] at hm
    cases hm
  intro fuel
  induction fuel with
  | zero =>
    intro listed a w hs hc hJ
    have hr : Region.ready md ops listed = [] := by
      rw [List.eq_nil_iff_forall_not_mem]
      intro i hi
      obtain ⟨h1, o, ho, _⟩ := mem_ready.1 hi
      have hil : i < listed.size := by rw [hs]; exact (Array.getElem?_eq_some_iff.1 ho).1
      have h2 : listed[i] = false := by simpa [hil] using h1
      have : false ∈ listed.toList := by rw [← h2]; simp
      have := List.count_pos_iff.2 this
      omega
    exact ⟨hr, hfin listed a w hs hJ hr⟩
  | succ fuel ih =>
    intro listed a w hs hc hJ
    refine ⟨hfin listed a w hs hJ, fun i hi => ?_⟩
    obtain ⟨h1, o, ho, hd⟩ := mem_ready.1 hi
    have hil : i < listed.size := by rw [hs]; exact (Array.getElem?_eq_some_iff.1 ho).1
    have h2 : listed[i] = false := by simpa [hil] using h1
    refine wpOp_step ho fun K' hK => step _ a w i o hJ (by simpa [hil] using h2) ho hd K' fun a' w' hJ' => hK a' w' (ih _ a' w' (by simpa using hs) ?_ ?_)
    · rw [Array.toList_setIfInBounds]
      have := count_set (l := listed.toList) (i := i) (by rw [Array.getElem?_toList, Array.getElem?_eq_getElem hil, h2])
      omega
    have e : (fun j => (listed.setIfInBounds i true).getD j false) = upd (fun j => listed.getD j false) i := by
      funext j
      unfold upd
      by_cases hj : j = i
      · subst hj
        simp [hil]
      rw [if_neg hj]
      simp [Array.getD_eq_getD_getElem?, Array.getElem?_setIfInBounds, Ne.symm hj]
    rw [e]
    exact hJ'

/-- The region as a whole. -/
theorem wp_region_inv {id : Nat} {a : Act} {w : World} (hm : P.follows .mixedOrders = true) (J : (Nat → Bool) → Act → World → Prop) (h0 : J (fun _ => false) a w.drew)
    (step : ∀ (L : Nat → Bool) (a : Act) (w : World) (i : Nat) (o : Oper), J L a w → L i = false → ops[i]? = some o → (∀ e ∈ o.after, Region.binds .any e = true → L e.on = true) →
      ∀ K' : Act → World → Prop, (∀ a' w', J (upd L i) a' w' → K' a' w') → if Region.wanted o (yielded ops a.tmps) = true then Oper.wp P o a w K' Q else K' (a.put o.dst undef) w)
    (fin : ∀ (L : Nat → Bool) (a : Act) (w : World), J L a w → (∀ i o, ops[i]? = some o → L i = false → ∃ e ∈ o.after, Region.binds .any e = true ∧ L e.on = false) → Q .normal a w) :
    (Code.region id ops true).wp P Q a w := by
  refine wp_region_any hm (wpAny_inv J step fin ops.size _ a _ (by simp) ?_ ?_)
  · have h : (Array.replicate ops.size false).toList.count false ≤ (Array.replicate ops.size false).toList.length := List.count_le_length
    rw [Array.length_toList, Array.size_replicate] at h
    exact h
  have e : (fun i => (Array.replicate ops.size false).getD i false) = fun _ => false := by
    funext i
    simp [Array.getD_eq_getD_getElem?, Array.getElem?_replicate]
    split <;> rfl
  rw [e]
  exact h0

end

def nodupO : List (Option Tmp) → Bool
  | [] => true
  | none :: r => nodupO r
  | some s :: r => !r.contains (some s) && nodupO r
def inO (n : Nat) : List (Option Tmp) → Bool
  | [] => true
  | none :: r => inO n r
  | some s :: r => decide (s < n) && inO n r
def earlyB (ops : Array Oper) : Bool := (List.range ops.size).all fun i => (ops.getD i default).after.toList.all fun e => !Region.binds .any e || decide (e.on < i)
def slotsOk (ops : Array Oper) (slots : List (Option Tmp)) (n : Nat) : Bool := nodupO slots && inO n slots && earlyB ops
/-- The frame with what the operations have given. -/
def layV (V : Nat → Value) : Nat → List (Option Tmp) → Array Value → Array Value
  | _, [], t => t
  | q, none :: r, t => layV V (q + 1) r t
  | q, some s :: r, t => layV V (q + 1) r (t.setIfInBounds s (V q))

theorem nodupO_at : ∀ {l : List (Option Tmp)}, nodupO l = true → ∀ {i j : Nat} {s : Tmp}, l[i]? = some (some s) → l[j]? = some (some s) → i = j
  | [], _, i, j, s, h, _ => by simp at h
  | none :: r, hn, i, j, s, h1, h2 => by
    cases i with
    | zero => simp at h1
    | succ i =>
      cases j with
      | zero => simp at h2
      | succ j => exact congrArg (· + 1) (nodupO_at (l := r) hn (i := i) (j := j) (by simpa using h1) (by simpa using h2))
  | some t :: r, hn, i, j, s, h1, h2 => by
    simp only [nodupO, Bool.and_eq_true, Bool.not_eq_true'] at hn
    have hno : ∀ k, r[k]? = some (some t) → False := fun k hk => by
      have : some t ∈ r := List.mem_of_getElem? hk
      exact absurd this (by simpa using hn.1)
    cases i with
    | zero =>
      cases j with
      | zero => rfl
      | succ j =>
        simp at h1 h2
        subst h1
        exact (hno j h2).elim
    | succ i =>
      cases j with
      | zero =>
        simp at h1 h2
        subst h2
        exact (hno i h1).elim
      | succ j => exact congrArg (· + 1) (nodupO_at (l := r) hn.2 (i := i) (j := j) (by simpa using h1) (by simpa using h2))
theorem inO_at {n : Nat} : ∀ {l : List (Option Tmp)}, inO n l = true → ∀ {i : Nat} {s : Tmp}, l[i]? = some (some s) → s < n
  | [], _, i, s, h => by simp at h
  | none :: r, hn, i, s, h => by
    cases i with
    | zero => simp at h
    | succ i => exact inO_at (l := r) hn (by simpa using h)
  | some t :: r, hn, i, s, h => by
    simp only [inO, Bool.and_eq_true, decide_eq_true_eq] at hn
    cases i with
    | zero => simp at h; subst h; exact hn.1
    | succ i => exact inO_at (l := r) hn.2 (by simpa using h)
theorem layV_out {V : Nat → Value} : ∀ {l : List (Option Tmp)} {q : Nat} {t : Array Value} {s : Tmp}, some s ∉ l → (layV V q l t)[s]? = t[s]?
  | [], _, _, _, _ => rfl
  | none :: r, q, t, s, h => layV_out (l := r) (fun h' => h (List.mem_cons_of_mem _ h'))
  | some u :: r, q, t, s, h => by
    have hne : u ≠ s := fun e => h (by subst e; exact List.mem_cons_self)
    rw [layV, layV_out (l := r) (fun h' => h (List.mem_cons_of_mem _ h')), Array.getElem?_setIfInBounds_ne hne]
theorem layV_in {V : Nat → Value} : ∀ {l : List (Option Tmp)} {q : Nat} {t : Array Value} {i : Nat} {s : Tmp}, nodupO l = true → l[i]? = some (some s) → s < t.size → (layV V q l t)[s]? = some (V (q + i))
  | [], _, _, i, s, _, h, _ => by simp at h
  | none :: r, q, t, i, s, hn, h, hs => by
    cases i with
    | zero => simp at h
    | succ i => rw [layV, layV_in (l := r) (i := i) hn (by simpa using h) hs, show q + 1 + i = q + (i + 1) by omega]
  | some u :: r, q, t, i, s, hn, h, hs => by
    have hn2 := hn
    simp only [nodupO, Bool.and_eq_true, Bool.not_eq_true'] at hn2
    cases i with
    | zero =>
      simp at h
      subst h
      rw [layV, layV_out (l := r) (by simpa using hn2.1), Array.getElem?_setIfInBounds_self_of_lt hs]
      rfl
    | succ i => rw [layV, layV_in (l := r) (i := i) hn2.2 (by simpa using h) (by simpa using hs), show q + 1 + i = q + (i + 1) by omega]

section
variable {P : Program} {Q : Exit → Act → World → Prop} {id : Nat} {ops : Array Oper} {a : Act} {w : World}

structure VJ (ops : Array Oper) (slots : List (Option Tmp)) (a : Act) (w : World) (R : Nat → Value → World → Prop) (L : Nat → Bool) (act : Act) (W : World) : Prop where
  bel : Below w.heap.size w W
  df : act.defers = a.defers
  sz : act.tmps.size = a.tmps.size
  out : ∀ s, some s ∉ slots → act.tmps[s]? = a.tmps[s]?
  has : ∀ q s, L q = true → slots[q]? = some (some s) → ∃ v, act.tmps[s]? = some v ∧ R q v W

/-- What a slot of an operation that has come up holds. -/
theorem VJ.val {slots : List (Option Tmp)} {R : Nat → Value → World → Prop} {L : Nat → Bool} {act : Act} {W : World} {v : Value} (h : VJ ops slots a w R L act W) {q : Nat} {s : Tmp} (hq : L q = true) (hs : slots[q]? = some (some s)) (hv : ∀ u, R q u W → u = v) : act.tmps[s]? = some v := by
  obtain ⟨u, h1, h2⟩ := h.has q s hq hs
  rw [h1, hv u h2]

theorem wp_region_vals (hm : P.follows .mixedOrders = true) (slots : List (Option Tmp)) (R : Nat → Value → World → Prop)
    (hsl : ops.toList.map (·.dst) = slots) (hok : slotsOk ops slots a.tmps.size = true)
    (hR : ∀ q v W W', Below W.heap.size W W' → R q v W → R q v W')
    (step : ∀ (L : Nat → Bool) (act : Act) (W : World) (q : Nat) (o : Oper), VJ ops slots a w R L act W → ops[q]? = some o → (∀ e ∈ o.after, Region.binds .any e = true → L e.on = true) →
      ∀ K' : Act → World → Prop, (∀ v W', Below W.heap.size W W' → R q v W' → K' (act.put o.dst v) W') → if Region.wanted o (yielded ops act.tmps) = true then Oper.wp P o act W K' Q else K' (act.put o.dst undef) W)
    (fin : ∀ (V : Nat → Value) (W : World), Below w.heap.size w W → (∀ q s, slots[q]? = some (some s) → R q (V q) W) → Q .normal ⟨layV V 0 slots a.tmps, a.defers⟩ W) :
    (Code.region id ops true).wp P Q a w := by
  unfold slotsOk at hok
  simp only [Bool.and_eq_true] at hok
  obtain ⟨⟨hnd, hin⟩, hearly⟩ := hok
  have hlen : slots.length = ops.size := by rw [← hsl]; simp
  have hslot : ∀ (q : Nat) (o : Oper), ops[q]? = some o → slots[q]? = some o.dst := fun q o ho => by
    rw [← hsl, List.getElem?_map, Array.getElem?_toList, ho]; rfl
  refine wp_region_inv hm (fun L act W => VJ ops slots a w R L act W) ?_ ?_ ?_
  · exact { bel := (Below.refl _ _).drew, df := rfl, sz := rfl, out := fun _ _ => rfl, has := fun _ _ h => nomatch h }
  · intro L act W q o hJ hL ho hd K' hK'
    refine step L act W q o hJ ho hd K' fun v W' hb hr => hK' _ _ ?_
    have hsq := hslot q o ho
    cases hdst : o.dst with
    | none =>
      rw [hdst] at hsq
      refine { bel := hJ.bel.trans (hb.mono hJ.bel.size), df := hJ.df, sz := hJ.sz, out := hJ.out, has := fun e s he hs => ?_ }
      have hne : e ≠ q := fun h => by subst h; rw [hsq] at hs; cases hs
      obtain ⟨u, h1, h2⟩ := hJ.has e s (by rw [upd_other hne] at he; exact he) hs
      exact ⟨u, h1, hR _ _ _ _ hb h2⟩
    | some d =>
      rw [hdst] at hsq
      have hdz : d < act.tmps.size := by rw [hJ.sz]; exact inO_at hin hsq
      refine { bel := hJ.bel.trans (hb.mono hJ.bel.size), df := hJ.df, sz := by show (act.tmps.setIfInBounds d v).size = _; rw [Array.size_setIfInBounds]; exact hJ.sz, out := fun s hs => ?_, has := fun e s he hs => ?_ }
      · have hne : d ≠ s := fun h => hs (by subst h; exact List.mem_of_getElem? hsq)
        show (act.tmps.setIfInBounds d v)[s]? = _
        rw [Array.getElem?_setIfInBounds_ne hne]
        exact hJ.out s hs
      show ∃ u, (act.tmps.setIfInBounds d v)[s]? = some u ∧ _
      by_cases heq : e = q
      · subst heq
        rw [hsq] at hs
        injection hs with hs
        injection hs with hs
        subst hs
        exact ⟨v, Array.getElem?_setIfInBounds_self_of_lt hdz, hr⟩
      obtain ⟨u, h1, h2⟩ := hJ.has e s (by rw [upd_other heq] at he; exact he) hs
      have hne : d ≠ s := fun h => by subst h; exact heq (nodupO_at hnd hs hsq)
      exact ⟨u, by rw [Array.getElem?_setIfInBounds_ne hne]; exact h1, hR _ _ _ _ hb h2⟩
  intro L act W hJ hfin
  have hall : ∀ n q, q < n → q < ops.size → L q = true := by
    intro n
    induction n with
    | zero => intro q h; omega
    | succ n ih =>
      intro q hq hqs
      cases hl : L q with
      | true => rfl
      | false =>
        obtain ⟨e, he, hb, hon⟩ := hfin q _ (Array.getElem?_eq_getElem hqs) hl
        have h1 := hearly
        unfold earlyB at h1
        rw [List.all_eq_true] at h1
        have h2 := h1 q (List.mem_range.2 hqs)
        rw [List.all_eq_true] at h2
        have h3 := h2 e (by rw [Array.getD_eq_getD_getElem?, Array.getElem?_eq_getElem hqs]; exact Array.mem_toList_iff.2 he)
        rw [hb] at h3
        simp at h3
        rw [ih e.on (by omega) (by omega)] at hon
        cases hon
  have hall' : ∀ q, q < ops.size → L q = true := fun q hq => hall (q + 1) q (Nat.lt_succ_self _) hq
  have hlt : ∀ {q s}, slots[q]? = some (some s) → q < ops.size := fun {q s} h => by
    have := (List.getElem?_eq_some_iff.1 h).1
    omega
  let V : Nat → Value := fun q => match slots[q]? with
    | some (some s) => act.tmps[s]?.getD undef
    | _ => undef
  have hV : ∀ q s, slots[q]? = some (some s) → act.tmps[s]? = some (V q) ∧ R q (V q) W := fun q s hs => by
    obtain ⟨v, h1, h2⟩ := hJ.has q s (hall' q (hlt hs)) hs
    have e : V q = v := by
      show (match slots[q]? with | some (some s) => act.tmps[s]?.getD undef | _ => undef) = v
      rw [hs]
      show act.tmps[s]?.getD undef = v
      rw [h1]
      rfl
    rw [e]
    exact ⟨h1, h2⟩
  have hact : act = ⟨layV V 0 slots a.tmps, a.defers⟩ := by
    have ht : act.tmps = layV V 0 slots a.tmps := by
      apply Array.ext_getElem?
      intro s
      by_cases hs : some s ∈ slots
      · obtain ⟨q, hq, e⟩ := List.getElem_of_mem hs
        have hqs : slots[q]? = some (some s) := by rw [List.getElem?_eq_getElem hq, e]
        rw [(hV q s hqs).1, layV_in hnd hqs (inO_at hin hqs), Nat.zero_add]
      rw [hJ.out s hs, layV_out hs]
    show (⟨act.tmps, act.defers⟩ : Act) = _
    rw [hJ.df]
    exact congrArg (fun t => (⟨t, a.defers⟩ : Act)) ht
  rw [hact]
  exact fin V W hJ.bel fun q s hs => (hV q s hs).2
end

end Go.Proofs.YtijkdpdmclkmlaaGreatDoor
