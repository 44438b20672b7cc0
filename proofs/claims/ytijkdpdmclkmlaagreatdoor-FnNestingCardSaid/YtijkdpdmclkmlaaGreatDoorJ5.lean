/- The walks of the two functions that ask whether numbers are strictly ascending, and of slices.IndexFunc, slices.ContainsFunc at a quiet closure. slices.IndexFunc and slices.ContainsFunc: what they answer, for a closure that is known by its contract. What a valid signature and a valid bigraph is. Plain words; no walk. Links, parents, names of bigraphs: the two packages' tests walked. The inner names' list, and lists of names: the two packages' functions walked. -/
import Derived.Test.YtijkdpdmclkmlaaGreatDoorProg
import Derived.Test.YtijkdpdmclkmlaaGreatDoorJ0
import Derived.Handy
import Derived.StillTailTactics
import Derived.Test.YtijkdpdmclkmlaaGreatDoorJ4
import Derived.Test.YtijkdpdmclkmlaaGreatDoorJ1
import Derived.Laws.Cover1
import Derived.Test.YtijkdpdmclkmlaaGreatDoorJ2
set_option linter.unusedSimpArgs false
set_option linter.unusedVariables false
set_option maxRecDepth 100000
set_option maxHeartbeats 16000000
namespace Go.Proofs.YtijkdpdmclkmlaaGreatDoor
open Go.RowKit
def allR (n : Nat) (p : Nat → Bool) : Bool := (List.range n).all p
theorem allR_true {n : Nat} {p : Nat → Bool} (h : ∀ j, j < n → p j = true) : allR n p = true := by
  unfold allR; rw [List.all_eq_true]; intro x hx; exact h x (List.mem_range.1 hx)
theorem allR_false {n k : Nat} {p : Nat → Bool} (hk : k < n) (h : p k = false) : allR n p = false := by
  unfold allR; rw [Bool.eq_false_iff]; intro hh; rw [List.all_eq_true] at hh; have := hh k (List.mem_range.2 hk); rw [h] at this; cases this
theorem all_next {p : Nat → Bool} {k : Nat} (h : ∀ j, j < k → p j = true) (hk : p k = true) : ∀ j, j < k + 1 → p j = true := by
  intro j hj
  rcases Nat.lt_succ_iff_lt_or_eq.1 hj with h' | h'
  · exact h j h'
  rw [h']; exact hk

/-- The first number below n for which p holds, -1 if there is none. -/
def idxR (n : Nat) (p : Nat → Bool) : Int := match (List.range n).find? p with | some k => (k : Int) | none => -1

theorem idxR_none {n : Nat} {p : Nat → Bool} (h : ∀ j, j < n → p j = false) : idxR n p = -1 := by
  have : (List.range n).find? p = none := by rw [List.find?_eq_none]; intro x hx; simp [h x (List.mem_range.1 hx)]
  unfold idxR; rw [this]
theorem idxR_some {n k : Nat} {p : Nat → Bool} (hk : k < n) (h : ∀ j, j < k → p j = false) (hp : p k = true) : idxR n p = (k : Int) := by
  have : (List.range n).find? p = some k := by
    rw [List.find?_range_eq_some]
    exact ⟨hp, List.mem_range.2 hk, fun j hj => by simp [h j hj]⟩
  unfold idxR; rw [this]
def anyR (n : Nat) (p : Nat → Bool) : Bool := (List.range n).any p
theorem idxR_any (n : Nat) (p : Nat → Bool) : decide (0 ≤ idxR n p) = anyR n p := by
  cases h : (List.range n).find? p with
  | none =>
    have h1 : idxR n p = -1 := by unfold idxR; rw [h]
    have h2 : anyR n p = false := by
      unfold anyR
      rw [List.any_eq_false]
      intro x hx
      exact List.find?_eq_none.1 h x hx
    rw [h1, h2]; rfl
  | some k =>
    have h1 : idxR n p = (k : Int) := by unfold idxR; rw [h]
    have h2 : anyR n p = true := by
      unfold anyR
      rw [List.any_eq_true]
      exact ⟨k, List.mem_of_find?_eq_some h, List.find?_some h⟩
    rw [h1, h2]; simp
theorem none_next {p : Nat → Bool} {k : Nat} (h : ∀ j, j < k → p j = false) (hk : p k = false) : ∀ j, j < k + 1 → p j = false := by
  intro j hj
  rcases Nat.lt_succ_iff_lt_or_eq.1 hj with h' | h'
  · exact h j h'
  rw [h']; exact hk

theorem enter_of {P : Program} {F : FuncId} {fn : Func} (hf : P.funcs[F]? = some fn) (hname : (fn.name == "runtime.NumGoroutine") = false) (hb : fn.body.isNone = false) (args : Array Value) (w : World) :
    (callFunc F args).run P w = .ok (.enter F args) w := by
  have h1 : ¬ fn.name = "runtime.NumGoroutine" := by simpa using hname
  have h2 : ¬ fn.body = none := by intro e; rw [e] at hb; cases hb
  simp [callFunc, hf, h1, h2]

def ct0 : Ct := (default, 0, 0)
def nod0 : Nod := (0, 0, [])
def wi0 : Wi := (default, 0)
def ctA (sig : List Ct) (i : Nat) : Ct := sig.getD i ct0
def nodA (g : Gr) (i : Nat) : Nod := g.nodes.getD i nod0
def wiA (g : Gr) (i : Nat) : Wi := g.inner.getD i wi0
def lessS (a b : ByteArray) : Bool := Op.bytesLess a.toList b.toList
def portsA (sig : List Ct) (c : Int) : Int := (ctA sig c.toNat).2.1
def kindA (sig : List Ct) (c : Int) : Int := (ctA sig c.toNat).2.2

def ctB (sig : List Ct) (i : Nat) : Bool := nameB (ctA sig i).1 && inB (ctA sig i).2.1 0 3 && inB (ctA sig i).2.2 0 2 && !anyR i fun k => decide ((ctA sig k).1 = (ctA sig i).1)
def sigB (sig : List Ct) : Bool := inB sig.length 1 6 && allR sig.length (ctB sig)
def linkB (g : Gr) (l : Int) : Bool := inB l 0 (g.edges + g.outer.length - 1)
def underB (sig : List Ct) (g : Gr) (p : Int) (below : Int) : Bool := if p < 0 then decide (-g.roots ≤ p) else decide (p < below) && !(kindA sig (nodA g p.toNat).1 == 2)
def nodB (sig : List Ct) (g : Gr) (i : Nat) : Bool :=
  inB (nodA g i).1 0 ((sig.length : Int) - 1) && underB sig g (nodA g i).2.1 i && (((nodA g i).2.2.length : Int) == portsA sig (nodA g i).1) && allR (nodA g i).2.2.length fun k => linkB g ((nodA g i).2.2.getD k 0)
def nameAt (l : List ByteArray) (i : Nat) : Bool := nameB (l.getD i default) && (i == 0 || lessS (l.getD (i - 1) default) (l.getD i default))
def namesB (l : List ByteArray) : Bool := allR l.length (nameAt l) && decide (l.length ≤ 16)
def innerN (g : Gr) : List ByteArray := g.inner.map fun x => x.1

/-- The parts of what a valid bigraph is. -/
def headB (sig : List Ct) (g : Gr) : Bool := sigB sig && inB g.roots 0 4 && decide (g.nodes.length ≤ 8) && decide (g.sites.length ≤ 4) && inB g.edges 0 8
def nodsB (sig : List Ct) (g : Gr) : Bool := allR g.nodes.length (nodB sig g)
def sitsB (sig : List Ct) (g : Gr) : Bool := allR g.sites.length fun i => underB sig g (g.sites.getD i 0) g.nodes.length
def innsB (g : Gr) : Bool := allR g.inner.length fun i => linkB g (wiA g i).2
def goodG (sig : List Ct) (g : Gr) : Bool := headB sig g && namesB g.outer && namesB (innerN g) && nodsB sig g && sitsB sig g && innsB g

theorem allR_get {n : Nat} {p : Nat → Bool} (h : allR n p = true) {k : Nat} (hk : k < n) : p k = true := by
  unfold allR at h
  rw [List.all_eq_true] at h
  exact h k (List.mem_range.2 hk)

theorem bytes_asym : ∀ (x y : List UInt8), Op.bytesLess x y = true → Op.bytesLess y x = false
  | [], [], h => by simp [Op.bytesLess] at h
  | a :: x, [], h => by simp [Op.bytesLess] at h
  | [], b :: y, h => by simp [Op.bytesLess]
  | a :: x, b :: y, h => by
    simp only [Op.bytesLess, Bool.or_eq_true, Bool.and_eq_true, decide_eq_true_eq, beq_iff_eq] at h
    have hne : ∀ (c d : UInt8), c < d → ¬ d < c := fun c d h => by
      rw [UInt8.lt_iff_toNat_lt] at h ⊢; omega
    rcases h with h | ⟨rfl, h⟩
    · have h1 := hne _ _ h
      have h2 : ¬ b = a := fun e => by subst e; exact hne _ _ h h
      simp [Op.bytesLess, h1, h2]
    have h1 : ¬ a < a := fun h => hne _ _ h h
    simp [Op.bytesLess, h1, bytes_asym x y h]
theorem bytes_total : ∀ (x y : List UInt8), Op.bytesLess x y = false → Op.bytesLess y x = false → x = y
  | [], [], _, _ => rfl
  | a :: x, [], _, h => by simp [Op.bytesLess] at h
  | [], b :: y, h, _ => by simp [Op.bytesLess] at h
  | a :: x, b :: y, h, k => by
    simp only [Op.bytesLess, Bool.or_eq_false_iff, Bool.and_eq_false_iff, decide_eq_false_iff_not, beq_eq_false_iff_ne] at h k
    have e : a = b := by
      apply UInt8.toNat_inj.1
      have h1 := h.1
      have k1 := k.1
      rw [UInt8.lt_iff_toNat_lt] at h1 k1
      omega
    subst e
    have h2 : Op.bytesLess x y = false := by rcases h.2 with h | h; exact absurd rfl h; exact h
    have k2 : Op.bytesLess y x = false := by rcases k.2 with h | h; exact absurd rfl h; exact h
    rw [bytes_total x y h2 k2]
theorem bytes_irr (x : List UInt8) : Op.bytesLess x x = false := by
  cases h : Op.bytesLess x x with
  | false => rfl
  | true => rw [bytes_asym x x h] at h; cases h
theorem toList_inj {x y : ByteArray} (h : x.toList = y.toList) : x = y := by
  rw [ByteArray.toList_eq, ByteArray.toList_eq] at h
  exact ByteArray.ext (Array.toList_inj.1 h)
/-- 's <= p' is not 'p < s'. -/
theorem less_leq (p s : ByteArray) : (Op.bytesLess s.toList p.toList || s.toList == p.toList) = !lessS p s := by
  unfold lessS
  cases h : Op.bytesLess p.toList s.toList with
  | true =>
    have h1 := bytes_asym _ _ h
    have h2 : ¬ s.toList = p.toList := fun e => by rw [e, bytes_irr] at h; cases h
    simp [h1, h2]
  | false =>
    cases h2 : Op.bytesLess s.toList p.toList with
    | true => rfl
    | false => simp [bytes_total _ _ h2 h]

theorem inB_neg {p r : Int} (hp : p < 0) : inB (-1 - p) 0 (r - 1) = decide (-r ≤ p) := by
  unfold inB
  rw [decide_eq_true (show (0 : Int) ≤ -1 - p by omega), Bool.true_and]
  by_cases h : -r ≤ p
  · rw [decide_eq_true h, decide_eq_true (by omega)]
  rw [decide_eq_false h, decide_eq_false (by omega)]

theorem isLink_any (g : Gr) (nv sv ov iv : Value) (x : Int) (w : World) (hs : SmallG g) (hG : RGr w nv sv ov iv g) :
    Calls Tryz.prog 144 #[.agg #[.int .i64 g.roots, nv, sv, .int .i64 g.edges, ov, iv], .int .i64 x] w fun e w' => e = .returned (.bool (linkB g x)) ∧ Below w.heap.size w w' := by
  obtain ⟨AN, cN, AS, cS, AO, cO, AI, cI, rfl, rfl, rfl, rfl⟩ := hG.form
  have h1 := hs.edges
  have h2 := hs.outer
  have HB := Lib.hid (fun o => (Below.refl w.heap.size w).alloc (Nat.le_refl _) o)
  unfold linkB
  clear hG hs
  go_enter Tryz.func144, Tryz.ntmps144
  go_wp2_with ((with_reducible refine (within_any ..).mono ?_); rintro e w' ⟨rfl, rfl⟩)
  go_ret
  exact ⟨rfl, HB.out _⟩

theorem l2Link_any (g : Gr) (nv sv ov iv : Value) (x : Int) (w : World) (hs : SmallG g) (hG : RGr w nv sv ov iv g) :
    Calls Tryz.prog 207 #[.agg #[.int .i64 g.roots, nv, sv, .int .i64 g.edges, ov, iv], .int .i64 x] w fun e w' => e = .returned (.bool (linkB g x)) ∧ Below w.heap.size w w' := by
  obtain ⟨AN, cN, AS, cS, AO, cO, AI, cI, rfl, rfl, rfl, rfl⟩ := hG.form
  have h1 := hs.edges
  have h2 := hs.outer
  have HB := Lib.hid (fun o => (Below.refl w.heap.size w).alloc (Nat.le_refl _) o)
  unfold linkB
  clear hG hs
  go_enter Tryz.func207, Tryz.ntmps207
  go_wp2_with ((with_reducible refine (l1In_any ..).mono ?_); rintro e w' ⟨rfl, rfl⟩)
  go_ret
  exact ⟨rfl, HB.out _⟩

/-- The controls of the first nodes are there. -/
def CtlOk (sig : List Ct) (g : Gr) (below : Nat) : Prop := ∀ j, j < below → inB (nodA g j).1 0 ((sig.length : Int) - 1) = true

theorem nodA_get {g : Gr} {k : Nat} (h : k < g.nodes.length) : nodA g k = g.nodes[k] := by simp [nodA, List.getD, h]
theorem ctA_get {sig : List Ct} {k : Nat} (h : k < sig.length) : ctA sig k = sig[k] := by simp [ctA, List.getD, h]
theorem wiA_get {g : Gr} {k : Nat} (h : k < g.inner.length) : wiA g k = g.inner[k] := by simp [wiA, List.getD, h]

theorem isParent_any (sig : List Ct) (g : Gr) (nv sv ov iv gv : Value) (p : Int) (below : Nat) (w : World) (hs : SmallG g) (hS : RSl RCt 3 w gv sig) (hsl : sig.length ≤ 1000) (hG : RGr w nv sv ov iv g) (hb : below ≤ g.nodes.length) (hc : CtlOk sig g below) :
    Calls Tryz.prog 142 #[.agg #[.int .i64 g.roots, nv, sv, .int .i64 g.edges, ov, iv], gv, .int .i64 p, .int .i64 below] w fun e w' => e = .returned (.bool (underB sig g p below)) ∧ Below w.heap.size w w' := by
  have hal : ∀ o, Below w.heap.size w (w.alloc o) := fun o => (Below.refl w.heap.size w).alloc (Nat.le_refl _) o
  have HB := Lib.hid hal
  have h1 := hs.roots
  have h2 := hs.nodes
  unfold underB
  by_cases hp : p < 0
  · rw [if_pos hp]
    obtain ⟨AN, cN, AS, cS, AO, cO, AI, cI, rfl, rfl, rfl, rfl⟩ := hG.form
    obtain ⟨AG, cG, rfl, _⟩ := hS.form
    clear hS hG hs hal hc
    go_enter Tryz.func142, Tryz.ntmps142
    go_wp2_with fail
    go_ret
    exact ⟨rfl, HB.out _⟩
  rw [if_neg hp]
  by_cases hlt : p < (below : Int)
  · obtain ⟨k, rfl⟩ := Int.eq_ofNat_of_zero_le (show 0 ≤ p by omega)
    have hkn : k < g.nodes.length := by omega
    have hck := hc k (by omega)
    rw [nodA_get hkn] at hck
    obtain ⟨b, o, c, A, d, eN, k0, _, _, _⟩ := nod_at (hG.n.below RNod_keep (hal (.cells #[.int .i64 g.roots, nv, sv, .int .i64 g.edges, ov, iv] 31))) hkn
    obtain ⟨q0, q1⟩ := inB_true hck
    obtain ⟨m, hm⟩ := Int.eq_ofNat_of_zero_le q0
    have hml : m < sig.length := by omega
    obtain ⟨b', o', c', eS, _, _, s2⟩ := ct_at (hS.below RCt_keep (hal (.cells #[.int .i64 g.roots, nv, sv, .int .i64 g.edges, ov, iv] 31))) hml
    have HE := Lib.hid (show kindA sig (nodA g ((k : Nat) : Int).toNat).1 = sig[m].2.2 from by
      unfold kindA
      rw [Int.toNat_natCast, nodA_get hkn, hm, Int.toNat_natCast, ctA_get hml])
    rw [hm] at k0
    rw [HE.out, decide_eq_true hlt, Bool.true_and]
    obtain ⟨AN, cN, AS, cS, AO, cO, AI, cI, _, rfl, rfl, rfl⟩ := hG.form
    subst eN
    subst eS
    clear hS hG hs hal hc hck q0 q1 hm HE
    generalize sig[m].2.2 = z at *
    cases hz : (z == 2)
    · have hz' : (z != 2) = true := by rw [bne, hz]; rfl
      go_enter Tryz.func142, Tryz.ntmps142
      go_wp2_with fail
      go_ret
      exact ⟨rfl, HB.out _⟩
    have hz' : (z != 2) = false := by rw [bne, hz]; rfl
    go_enter Tryz.func142, Tryz.ntmps142
    go_wp2_with fail
    go_ret
    exact ⟨rfl, HB.out _⟩
  rw [decide_eq_false hlt, Bool.false_and]
  obtain ⟨AN, cN, AS, cS, AO, cO, AI, cI, rfl, rfl, rfl, rfl⟩ := hG.form
  obtain ⟨AG, cG, rfl, _⟩ := hS.form
  clear hS hG hs hal hc
  go_enter Tryz.func142, Tryz.ntmps142
  go_wp2_with fail
  go_ret
  exact ⟨rfl, HB.out _⟩

theorem l2Under_any (sig : List Ct) (g : Gr) (nv sv ov iv gv : Value) (p : Int) (below : Nat) (w : World) (hs : SmallG g) (hS : RSl RCt 3 w gv sig) (hsl : sig.length ≤ 1000) (hG : RGr w nv sv ov iv g) (hp0 : -9223372036854775808 ≤ p) (hb : below ≤ g.nodes.length) (hc : CtlOk sig g below) :
    Calls Tryz.prog 206 #[gv, .agg #[.int .i64 g.roots, nv, sv, .int .i64 g.edges, ov, iv], .int .i64 p, .int .i64 below] w fun e w' => e = .returned (.bool (underB sig g p below)) ∧ Below w.heap.size w w' := by
  have hal : ∀ o, Below w.heap.size w (w.alloc o) := fun o => (Below.refl w.heap.size w).alloc (Nat.le_refl _) o
  have HB := Lib.hid hal
  have h1 := hs.roots
  have h2 := hs.nodes
  unfold underB
  by_cases hp : p < 0
  · rw [if_pos hp]
    obtain ⟨AN, cN, AS, cS, AO, cO, AI, cI, rfl, rfl, rfl, rfl⟩ := hG.form
    obtain ⟨AG, cG, rfl, _⟩ := hS.form
    clear hS hG hs hal hc
    go_enter Tryz.func206, Tryz.ntmps206
    go_wp2_with ((with_reducible refine (l1In_any ..).mono ?_); rintro e w' ⟨rfl, rfl⟩)
    go_ret
    exact ⟨by rw [← inB_neg hp]; rfl, HB.out _⟩
  rw [if_neg hp]
  by_cases hlt : p < (below : Int)
  · obtain ⟨k, rfl⟩ := Int.eq_ofNat_of_zero_le (show 0 ≤ p by omega)
    have hkn : k < g.nodes.length := by omega
    have hck := hc k (by omega)
    rw [nodA_get hkn] at hck
    obtain ⟨b, o, c, A, d, eN, k0, _, _, _⟩ := nod_at (hG.n.below RNod_keep (hal (.cells #[.int .i64 g.roots, nv, sv, .int .i64 g.edges, ov, iv] 31))) hkn
    obtain ⟨q0, q1⟩ := inB_true hck
    obtain ⟨m, hm⟩ := Int.eq_ofNat_of_zero_le q0
    have hml : m < sig.length := by omega
    obtain ⟨b', o', c', eS, _, _, s2⟩ := ct_at (hS.below RCt_keep (hal (.cells #[.int .i64 g.roots, nv, sv, .int .i64 g.edges, ov, iv] 31))) hml
    have HE := Lib.hid (show kindA sig (nodA g ((k : Nat) : Int).toNat).1 = sig[m].2.2 from by
      unfold kindA
      rw [Int.toNat_natCast, nodA_get hkn, hm, Int.toNat_natCast, ctA_get hml])
    rw [hm] at k0
    rw [HE.out, decide_eq_true hlt, Bool.true_and]
    obtain ⟨AN, cN, AS, cS, AO, cO, AI, cI, _, rfl, rfl, rfl⟩ := hG.form
    subst eN
    subst eS
    clear hS hG hs hal hc hck q0 q1 hm HE
    generalize sig[m].2.2 = z at *
    cases hz : (z == 2)
    · have hz' : (z != 2) = true := by rw [bne, hz]; rfl
      go_enter Tryz.func206, Tryz.ntmps206
      go_wp2_with fail
      go_ret
      exact ⟨rfl, HB.out _⟩
    have hz' : (z != 2) = false := by rw [bne, hz]; rfl
    go_enter Tryz.func206, Tryz.ntmps206
    go_wp2_with fail
    go_ret
    exact ⟨rfl, HB.out _⟩
  rw [decide_eq_false hlt, Bool.false_and]
  obtain ⟨AN, cN, AS, cS, AO, cO, AI, cI, rfl, rfl, rfl, rfl⟩ := hG.form
  obtain ⟨AG, cG, rfl, _⟩ := hS.form
  clear hS hG hs hal hc
  go_enter Tryz.func206, Tryz.ntmps206
  go_wp2_with fail
  go_ret
  exact ⟨rfl, HB.out _⟩

theorem el_strG : El Tryz.prog 24 9 1 16 := El.mk' Tryz.underlying24 (by kernel_rfl : _ = some (some (.string ⟨#[]⟩), 1, 16)) rfl (by decide)
theorem made_rowG (w : World) (t : TypeId) : (w.alloc (.cells #[] t)).ownsRow w.heap.size t 1 (.slice (some ⟨w.heap.size, 0, none⟩) 0 0) 0 [] := World.ownsRow_made w #[] 0 (Nat.le_refl _) (Nat.zero_le _) rfl
theorem strs_take {l : List ByteArray} {k : Nat} (h : k < l.length) : strs (l.take (k + 1)) = strs (l.take k) ++ [.string l[k]] := by
  unfold strs
  rw [List.take_succ_eq_append_getElem h, List.map_append]
  rfl
theorem innerN_len (g : Gr) : (innerN g).length = g.inner.length := by simp [innerN]
theorem innerN_get {g : Gr} {k : Nat} (h : k < g.inner.length) : (innerN g)[k]'(by rw [innerN_len]; exact h) = g.inner[k].1 := by simp [innerN]

theorem l2Inner_any (g : Gr) (nv sv ov iv : Value) (w : World) (hs : SmallG g) (hG : RGr w nv sv ov iv g) :
    Calls Tryz.prog 151 #[.agg #[.int .i64 g.roots, nv, sv, .int .i64 g.edges, ov, iv]] w fun e w' => ∃ r, e = .returned r ∧ w'.ownsRow w.heap.size 9 1 r g.inner.length (strs (innerN g)) ∧ Below w.heap.size w w' := by
  have HI := Lib.hid (show ∀ W, Below w.heap.size w W → RSl RWi 2 W iv g.inner from fun W hb => hG.i.below RWi_keep hb)
  obtain ⟨AN, cN, AS, cS, AO, cO, AI, cI, rfl, rfl, rfl, rfl⟩ := hG.form
  have h1 := hs.inner
  obtain ⟨w0, hw0, hb0, hsz0, bx0⟩ := laid1 w (.cells #[.int .i64 g.roots, .slice AN g.nodes.length cN, .slice AS g.sites.length cS, .int .i64 g.edges, .slice AO g.outer.length cO, .slice AI g.inner.length cI] 31)
  have HB0 := Lib.hid hb0
  have HX0 := Lib.hid bx0
  have HW0 := Lib.hid hw0
  have HLN := Lib.hid (innerN_len g)
  clear hs hG hb0 bx0 hw0
  go_enter Tryz.func151, Tryz.ntmps151
  go_wp2_with fail
  rw [← HW0.out]
  go_loopw [3, 4] (fun u i wr => ∃ k : Nat, k ≤ g.inner.length ∧ i = .int .i64 k ∧ wr.ownsRow w0.heap.size 9 1 u k (strs ((innerN g).take k)) ∧ Below w0.heap.size w0 wr)
    (fun _ i _ => g.inner.length - (intOf i).toNat)
  case atStart => exact ⟨0, Nat.zero_le _, rfl, by have h := made_rowG w0 9; rw [hsz0] at h ⊢; exact h, (Below.refl _ _).alloc (Nat.le_refl _) _⟩
  obtain ⟨k, hk, rfl, hown, hbel⟩ := hrel
  obtain ⟨AU, cU, rfl, hown⟩ := owns_form hown
  have hsz := hbel.size
  have i5 : wr.cell? ⟨w.heap.size, 5, none⟩ = some (.slice AI g.inner.length cI) := cell_of_row _ _ _ _ _ _ ((hbel.block _ (by omega)).trans HX0.out)
  by_cases hlt : k < g.inner.length
  · obtain ⟨b, o, c, ev, k0, k1⟩ := wi_at (HI.out wr (HB0.out.trans (hbel.mono HB0.out.size))) hlt
    cases ev
    have HT := Lib.hid (strs_take (l := innerN g) (k := k) (by rw [innerN_len]; exact hlt))
    have HE := Lib.hid (innerN_get hlt)
    have HO := Lib.hid hown
    have HBE := Lib.hid hbel
    clear hown hbel k1
    rw [HE.out] at HT
    clear HE
    generalize g.inner[k].1 = s at *
    go_wp2_with (at_builtin; refine wpList_app el_strG rfl _ _ rfl w0.heap.size _ _ _ rfl HO.out [.string s] rfl rfl rfl (one1 rfl) (by omega) hsz ?_; intro v2 w2 ho hk2 hm2)
    have HO2 := Lib.hid (show w2.ownsRow w0.heap.size 9 1 v2 (k + 1) (strs ((innerN g).take (k + 1))) from by rw [HT.out]; exact ho)
    have HB2 := Lib.hid (below_kept HBE.out hk2 (fun q hq => (HO.out.lt q hq).1) hsz)
    clear ho hk2 hm2
    go_wp2_with fail
    go_roundw
    case rel => exact ⟨k + 1, by omega, by go_num, HO2.out, HB2.out⟩
    case measure => simp [intOf]; omega
  obtain rfl : k = g.inner.length := by omega
  rw [List.take_of_length_le (by rw [HLN.out]; exact Nat.le_refl _)] at hown
  have HO := Lib.hid (owns_mono hown HB0.out.size)
  have HBE := Lib.hid (HB0.out.trans (hbel.mono HB0.out.size))
  clear hown hbel
  go_wp2_with fail
  go_ret
  exact ⟨_, rfl, HO.out, HBE.out⟩

theorem innerNames_any (g : Gr) (nv sv ov iv : Value) (w : World) (hs : SmallG g) (hG : RGr w nv sv ov iv g) :
    Calls Tryz.prog 141 #[.agg #[.int .i64 g.roots, nv, sv, .int .i64 g.edges, ov, iv]] w fun e w' => ∃ r, e = .returned r ∧ w'.ownsRow w.heap.size 9 1 r g.inner.length (strs (innerN g)) ∧ Below w.heap.size w w' := by
  have HI := Lib.hid (show ∀ W, Below w.heap.size w W → RSl RWi 2 W iv g.inner from fun W hb => hG.i.below RWi_keep hb)
  obtain ⟨AN, cN, AS, cS, AO, cO, AI, cI, rfl, rfl, rfl, rfl⟩ := hG.form
  have h1 := hs.inner
  obtain ⟨w0, hw0, hb0, hsz0, bx0⟩ := laid1 w (.cells #[.int .i64 g.roots, .slice AN g.nodes.length cN, .slice AS g.sites.length cS, .int .i64 g.edges, .slice AO g.outer.length cO, .slice AI g.inner.length cI] 31)
  have HB0 := Lib.hid hb0
  have HX0 := Lib.hid bx0
  have HW0 := Lib.hid hw0
  have HLN := Lib.hid (innerN_len g)
  clear hs hG hb0 bx0 hw0
  go_enter Tryz.func141, Tryz.ntmps141
  go_wp2_with fail
  rw [← HW0.out]
  go_loopw [3, 10] (fun u i wr => ∃ k : Nat, k ≤ g.inner.length ∧ i = .int .i64 k ∧ wr.ownsRow w0.heap.size 9 1 u k (strs ((innerN g).take k)) ∧ Below w0.heap.size w0 wr)
    (fun _ i _ => g.inner.length - (intOf i).toNat)
  case atStart => exact ⟨0, Nat.zero_le _, rfl, by have h := made_rowG w0 9; rw [hsz0] at h ⊢; exact h, (Below.refl _ _).alloc (Nat.le_refl _) _⟩
  obtain ⟨k, hk, rfl, hown, hbel⟩ := hrel
  obtain ⟨AU, cU, rfl, hown⟩ := owns_form hown
  have hsz := hbel.size
  have i5 : wr.cell? ⟨w.heap.size, 5, none⟩ = some (.slice AI g.inner.length cI) := cell_of_row _ _ _ _ _ _ ((hbel.block _ (by omega)).trans HX0.out)
  by_cases hlt : k < g.inner.length
  · obtain ⟨b, o, c, ev, k0, k1⟩ := wi_at (HI.out wr (HB0.out.trans (hbel.mono HB0.out.size))) hlt
    cases ev
    have HT := Lib.hid (strs_take (l := innerN g) (k := k) (by rw [innerN_len]; exact hlt))
    have HE := Lib.hid (innerN_get hlt)
    have HO := Lib.hid hown
    have HBE := Lib.hid hbel
    clear hown hbel
    rw [HE.out] at HT
    clear HE
    generalize g.inner[k].1 = s at *
    generalize g.inner[k].2 = l at *
    go_wp2_with (at_builtin; refine wpList_app el_strG rfl _ _ rfl w0.heap.size _ _ _ rfl (HO.out.alloc _) [.string s] rfl (by simp) rfl (one1 rfl) (by omega) (by simp; omega) ?_; intro v2 w2 ho hk2 hm2)
    have HO2 := Lib.hid (show w2.ownsRow w0.heap.size 9 1 v2 (k + 1) (strs ((innerN g).take (k + 1))) from by rw [HT.out]; exact ho)
    have HB2 := Lib.hid (below_kept (HBE.out.alloc hsz _) hk2 (fun q hq => (HO.out.lt q hq).1) (by simp; omega))
    clear ho hk2 hm2
    go_wp2_with fail
    go_roundw
    case rel => exact ⟨k + 1, by omega, by go_num, HO2.out, HB2.out⟩
    case measure => simp [intOf]; omega
  obtain rfl : k = g.inner.length := by omega
  rw [List.take_of_length_le (by rw [HLN.out]; exact Nat.le_refl _)] at hown
  have HO := Lib.hid (owns_mono hown HB0.out.size)
  have HBE := Lib.hid (HB0.out.trans (hbel.mono HB0.out.size))
  clear hown hbel
  go_wp2_with fail
  go_ret
  exact ⟨_, rfl, HO.out, HBE.out⟩

theorem areNames_any (A : Option Addr) (c : Nat) (l : List ByteArray) (w : World) (hl : l.length ≤ 1000) (hz : ∀ s ∈ l, s.size ≤ 1000) (hA : Cells w A (strs l)) :
    Calls Tryz.prog 91 #[.slice A l.length c] w fun e w' => e = .returned (.bool (namesB l)) ∧ Below w.heap.size w w' := by
  have HA := Lib.hid (show ∀ W, Below w.heap.size w W → Cells W A (strs l) from fun W hb => hA.below hb)
  have HZ := Lib.hid (show ∀ k, k < l.length → (l.getD k default).size ≤ 1000 from fun k hk => by
    simp only [List.getD, List.getElem?_eq_getElem hk, Option.getD_some]
    exact hz _ (List.getElem_mem hk))
  clear hA hz
  go_enter Tryz.func91, Tryz.ntmps91
  go_wp2_with fail
  go_loopw [7] (fun i wr => ∃ k : Nat, k ≤ l.length ∧ i = .int .i64 k ∧ (∀ j, j < k → nameAt l j = true) ∧ Below w.heap.size w wr)
    (fun i _ => l.length - (intOf i).toNat)
  case atStart => exact ⟨0, Nat.zero_le _, rfl, fun j hj => by omega, Below.refl _ _⟩
  obtain ⟨k, hk, rfl, hall, hbel⟩ := hrel
  have HALL := Lib.hid hall
  have HBE := Lib.hid hbel
  clear hall
  by_cases hlt : k < l.length
  · obtain ⟨b, o, eA, hc⟩ := (HA.out wr hbel).str hlt
    have c0 := hc k hlt
    have HN := Lib.hid (isName_any (l.getD k default) wr (by have := HZ.out k hlt; unfold maxLen; omega))
    have HLQ := Lib.hid (less_leq (l.getD (k - 1) default) (l.getD k default))
    have HAT := Lib.hid (show nameAt l k = (nameB (l.getD k default) && (k == 0 || lessS (l.getD (k - 1) default) (l.getD k default))) from rfl)
    have HF := Lib.hid (show nameAt l k = false → namesB l = false from fun h => by unfold namesB; rw [allR_false hlt h, Bool.false_and])
    have HN2 := Lib.hid (show nameAt l k = true → ∀ j, j < k + 1 → nameAt l j = true from fun h => all_next HALL.out h)
    cases k with
    | zero =>
      subst eA
      rw [Nat.add_zero] at c0
      clear hc hbel
      cases hn : nameB (l.getD 0 default)
      · have HFF := Lib.hid (HF.out (by rw [HAT.out, hn]; rfl))
        rw [hn] at HN
        clear hn
        generalize l.getD 0 default = s at *
        go_wp2_with fail
        refine HN.out.mono ?_
        rintro e w1 ⟨rfl, hb⟩
        go_wp2_with fail
        go_ret
        exact ⟨by rw [HFF.out]; rfl, HBE.out.trans (hb.mono HBE.out.size)⟩
      have HTT := Lib.hid (HN2.out (by rw [HAT.out, hn]; rfl))
      rw [hn] at HN
      clear hn
      generalize l.getD 0 default = s at *
      go_wp2_with fail
      refine HN.out.mono ?_
      rintro e w1 ⟨rfl, hb⟩
      have HB1 := Lib.hid (HBE.out.trans (hb.mono HBE.out.size))
      clear hb
      go_wp2_with fail
      go_roundw
      case rel => exact ⟨1, by omega, by go_num, HTT.out, HB1.out⟩
      case measure => simp [intOf]; omega
    | succ m =>
      have c1 := hc m (by omega)
      subst eA
      clear hc hbel
      rw [Nat.add_sub_cancel] at HLQ HAT
      cases hn : nameB (l.getD (m + 1) default)
      · have HFF := Lib.hid (HF.out (by rw [HAT.out, hn]; rfl))
        rw [hn] at HN
        clear hn c1
        generalize l.getD (m + 1) default = s at *
        go_wp2_with fail
        refine HN.out.mono ?_
        rintro e w1 ⟨rfl, hb⟩
        go_wp2_with fail
        go_ret
        exact ⟨by rw [HFF.out]; rfl, HBE.out.trans (hb.mono HBE.out.size)⟩
      rw [hn] at HN
      cases hq : lessS (l.getD m default) (l.getD (m + 1) default)
      · have HFF := Lib.hid (HF.out (by rw [HAT.out, hq]; simp))
        have hlq := HLQ.out
        rw [hq] at hlq
        have HC1 := Lib.hid c1
        clear hn hq c1
        generalize l.getD (m + 1) default = s at *
        generalize l.getD m default = p at *
        go_wp2_with fail
        refine HN.out.mono ?_
        rintro e w1 ⟨rfl, hb⟩
        have c1 := cell_below hb HC1.out (lt_of_cell HC1.out)
        go_wp2_with fail
        go_ret
        exact ⟨by rw [HFF.out]; rfl, HBE.out.trans (hb.mono HBE.out.size)⟩
      have HTT := Lib.hid (HN2.out (by rw [HAT.out, hn, hq]; simp))
      have hlq := HLQ.out
      rw [hq] at hlq
      have HC1 := Lib.hid c1
      clear hn hq c1
      generalize l.getD (m + 1) default = s at *
      generalize l.getD m default = p at *
      go_wp2_with fail
      refine HN.out.mono ?_
      rintro e w1 ⟨rfl, hb⟩
      have c1 := cell_below hb HC1.out (lt_of_cell HC1.out)
      have HB1 := Lib.hid (HBE.out.trans (hb.mono HBE.out.size))
      clear hb HC1
      go_wp2_with fail
      go_roundw
      case rel => exact ⟨m + 1 + 1, by omega, by go_num, HTT.out, HB1.out⟩
      case measure => simp [intOf]; omega
  obtain rfl : k = l.length := by omega
  have HE := Lib.hid (show namesB l = decide ((l.length : Int) ≤ 16) from by
    unfold namesB
    rw [allR_true HALL.out, Bool.true_and]
    by_cases h : l.length ≤ 16
    · rw [decide_eq_true h, decide_eq_true (by omega)]
    rw [decide_eq_false h, decide_eq_false (by omega)])
  clear hbel
  go_wp2_with fail
  go_ret
  exact ⟨by rw [HE.out]; rfl, HBE.out⟩

end Go.Proofs.YtijkdpdmclkmlaaGreatDoor
