/- Lists of names, and signatures: the reference's tests walked. Nodes: the reference's test walked. Bigraphs: the reference's test walked. The plain law of composition: what a composition is, when it is valid, that it is associative, and identities. -/
import Derived.Test.YtijkdpdmclkmlaaGreatDoorProg
import Derived.Test.YtijkdpdmclkmlaaGreatDoorJ6
import Derived.Test.YtijkdpdmclkmlaaGreatDoorJ0
import Derived.Lib.QuietBelow
set_option linter.unusedSimpArgs false
set_option linter.unusedVariables false
set_option maxRecDepth 100000
set_option maxHeartbeats 16000000
namespace Go.Proofs.YtijkdpdmclkmlaaGreatDoor
open Go.RowKit
theorem l2Name_q (s : ByteArray) (w : World) (hs : s.size ≤ maxLen) : Calls Tryz.prog 201 #[.string s] w fun e w' => e = .returned (.bool (nameB s)) ∧ w' = w :=
  (l2Name_any s w hs).mono fun _ _ ⟨a, b⟩ => ⟨a, b.symm⟩

theorem l2Names_any (A : Option Addr) (c : Nat) (l : List ByteArray) (w : World) (hl : l.length ≤ 1000) (hz : ∀ s ∈ l, s.size ≤ 1000) (hA : Cells w A (strs l)) :
    Calls Tryz.prog 179 #[.slice A l.length c] w fun e w' => e = .returned (.bool (namesB l)) ∧ Below w.heap.size w w' := by
  have HA := Lib.hid (show ∀ W, Below w.heap.size w W → Cells W A (strs l) from fun W hb => hA.below hb)
  have HZ := Lib.hid (show ∀ k, k < l.length → (l.getD k default).size ≤ 1000 from fun k hk => by
    simp only [List.getD, List.getElem?_eq_getElem hk, Option.getD_some]
    exact hz _ (List.getElem_mem hk))
  clear hA hz
  go_enter Tryz.func179, Tryz.ntmps179
  go_wp2_with fail
  go_loopw [3] (fun i wr => ∃ k : Nat, k ≤ l.length ∧ i = .int .i64 k ∧ (∀ j, j < k → nameAt l j = true) ∧ Below w.heap.size w wr)
    (fun i _ => l.length - (intOf i).toNat)
  case atStart => exact ⟨0, Nat.zero_le _, rfl, fun j hj => by omega, Below.refl _ _⟩
  obtain ⟨k, hk, rfl, hall, hbel⟩ := hrel
  have HALL := Lib.hid hall
  have HBE := Lib.hid hbel
  clear hall
  by_cases hlt : k < l.length
  · obtain ⟨b, o, eA, hc⟩ := (HA.out wr hbel).str hlt
    have c0 := hc k hlt
    have HN := Lib.hid (fun W => l2Name_q (l.getD k default) W (by have := HZ.out k hlt; unfold maxLen; omega))
    have HAT := Lib.hid (show nameAt l k = (nameB (l.getD k default) && (k == 0 || lessS (l.getD (k - 1) default) (l.getD k default))) from rfl)
    have HF := Lib.hid (show nameAt l k = false → namesB l = false from fun h => by unfold namesB; rw [allR_false hlt h, Bool.false_and])
    have HN2 := Lib.hid (show nameAt l k = true → ∀ j, j < k + 1 → nameAt l j = true from fun h => all_next HALL.out h)
    cases k with
    | zero =>
      subst eA
      rw [Nat.add_zero] at c0
      clear hc hbel
      cases hn : nameB (l.getD 0 default)
      · have HFF := Lib.hid (HF.out (by rw [HAT.out, hn]; rfl))
        rw [hn] at HN
        clear hn
        generalize l.getD 0 default = s at *
        go_wp2_with fail
        go_quiet ((go_at_call 201; exact Calls.quiet_of_same (HN.out _)))
        go_wp2_with fail
        go_ret
        exact ⟨by rw [HFF.out]; rfl, below_drewN' HBE.out _⟩
      have HTT := Lib.hid (HN2.out (by rw [HAT.out, hn]; rfl))
      rw [hn] at HN
      clear hn
      generalize l.getD 0 default = s at *
      go_wp2_with fail
      go_quiet ((go_at_call 201; exact Calls.quiet_of_same (HN.out _)))
      go_wp2_with fail
      go_roundw
      case rel => exact ⟨1, by omega, by go_num, HTT.out, below_drewN' HBE.out _⟩
      case measure => simp [intOf]; omega
    | succ m =>
      have c1 := hc m (by omega)
      subst eA
      clear hc hbel
      rw [Nat.add_sub_cancel] at HAT
      cases hn : nameB (l.getD (m + 1) default)
      · have HFF := Lib.hid (HF.out (by rw [HAT.out, hn]; rfl))
        rw [hn] at HN
        clear hn c1
        generalize l.getD (m + 1) default = s at *
        go_wp2_with fail
        go_quiet ((go_at_call 201; exact Calls.quiet_of_same (HN.out _)))
        go_wp2_with fail
        go_ret
        exact ⟨by rw [HFF.out]; rfl, below_drewN' HBE.out _⟩
      rw [hn] at HN
      cases hq : lessS (l.getD m default) (l.getD (m + 1) default)
      · have HFF := Lib.hid (HF.out (by rw [HAT.out, hq]; simp))
        have hlq : Op.bytesLess (l.getD m default).toList (l.getD (m + 1) default).toList = false := hq
        clear hn hq
        generalize l.getD (m + 1) default = s at *
        generalize l.getD m default = p at *
        go_wp2_with fail
        go_quiet ((go_at_call 201; exact Calls.quiet_of_same (HN.out _)))
        go_wp2_with fail
        go_ret
        exact ⟨by rw [HFF.out]; rfl, below_drewN' HBE.out _⟩
      have HTT := Lib.hid (HN2.out (by rw [HAT.out, hn, hq]; simp))
      have hlq : Op.bytesLess (l.getD m default).toList (l.getD (m + 1) default).toList = true := hq
      clear hn hq
      generalize l.getD (m + 1) default = s at *
      generalize l.getD m default = p at *
      go_wp2_with fail
      go_quiet ((go_at_call 201; exact Calls.quiet_of_same (HN.out _)))
      go_wp2_with fail
      go_roundw
      case rel => exact ⟨m + 1 + 1, by omega, by go_num, HTT.out, below_drewN' HBE.out _⟩
      case measure => simp [intOf]; omega
  obtain rfl : k = l.length := by omega
  have HE := Lib.hid (show namesB l = decide ((l.length : Int) ≤ 16) from by
    unfold namesB
    rw [allR_true HALL.out, Bool.true_and]
    by_cases h : l.length ≤ 16
    · rw [decide_eq_true h, decide_eq_true (by omega)]
    rw [decide_eq_false h, decide_eq_false (by omega)])
  clear hbel
  go_wp2_with fail
  go_ret
  exact ⟨by rw [HE.out]; rfl, HBE.out⟩

end Go.Proofs.YtijkdpdmclkmlaaGreatDoor

namespace Go.Proofs.YtijkdpdmclkmlaaGreatDoor
open Go.RowKit Go.Sort

theorem same_below {P : Program} {f : FuncId} {args : Array Value} {w : World} {v : Value} (h : Calls P f args w fun e w' => e = .returned v ∧ w = w') : Calls P f args w fun e w' => e = .returned v ∧ Below w.heap.size w w' :=
  h.mono fun _ _ ⟨a, b⟩ => ⟨a, by subst b; exact Below.refl _ _⟩

end Go.Proofs.YtijkdpdmclkmlaaGreatDoor

namespace Go.Proofs.YtijkdpdmclkmlaaGreatDoor
open Go.RowKit Go.Sort

theorem goodG_of (sig : List Ct) (g : Gr) : goodG sig g = (headB sig g && namesB g.outer && namesB (innerN g) && nodsB sig g && sitsB sig g && innsB g) := rfl
theorem head_false {sig : List Ct} {g : Gr} (h : headB sig g = false) : goodG sig g = false := by rw [goodG_of, h]; simp
theorem outer_false {sig : List Ct} {g : Gr} (h : namesB g.outer = false) : goodG sig g = false := by rw [goodG_of, h]; simp
theorem inner_false {sig : List Ct} {g : Gr} (h : namesB (innerN g) = false) : goodG sig g = false := by rw [goodG_of, h]; simp
theorem nods_false {sig : List Ct} {g : Gr} {k : Nat} (hk : k < g.nodes.length) (h : nodB sig g k = false) : goodG sig g = false := by
  have : nodsB sig g = false := allR_false hk h
  rw [goodG_of, this]; simp
theorem innerN_small {g : Gr} (hs : SmallG g) : (innerN g).length ≤ 1000 ∧ ∀ s ∈ innerN g, s.size ≤ 1000 := by
  refine ⟨by rw [innerN_len]; exact hs.inner, fun s h => ?_⟩
  unfold innerN at h
  obtain ⟨x, hx, rfl⟩ := List.mem_map.1 h
  exact hs.inames x hx
theorem ctl_next {sig : List Ct} {g : Gr} {k : Nat} (h : CtlOk sig g k) (hn : nodB sig g k = true) : CtlOk sig g (k + 1) := fun j hj => by
  rcases Nat.lt_succ_iff_lt_or_eq.1 hj with h' | h'
  · exact h j h'
  unfold nodB at hn
  simp only [Bool.and_eq_true] at hn
  rw [h']; exact hn.1.1.1

end Go.Proofs.YtijkdpdmclkmlaaGreatDoor

namespace Go.Proofs.YtijkdpdmclkmlaaGreatDoor
open Go.RowKit
theorem getD_some {α : Type} {l : List α} {i : Nat} {x d : α} (h : l[i]? = some x) : l.getD i d = x := by rw [List.getD_eq_getElem?_getD, h]; rfl
theorem getD_lt {α : Type} {l : List α} {i : Nat} {d : α} (h : i < l.length) : l[i]? = some (l.getD i d) := by rw [List.getD_eq_getElem?_getD, List.getElem?_eq_getElem h]; rfl

def LinkP (g : Gr) (l : Int) : Prop := 0 ≤ l ∧ l < g.edges + g.outer.length
def UnderP (sig : List Ct) (g : Gr) (p below : Int) : Prop := (p < 0 → -g.roots ≤ p) ∧ (0 ≤ p → p < below ∧ kindA sig (nodA g p.toNat).1 ≠ 2)
/-- What a valid bigraph is, told by its places. -/
structure GoodP (sig : List Ct) (g : Gr) : Prop where
  sg : sigB sig = true
  r : 0 ≤ g.roots ∧ g.roots ≤ 4
  n8 : g.nodes.length ≤ 8
  s4 : g.sites.length ≤ 4
  e : 0 ≤ g.edges ∧ g.edges ≤ 8
  on : namesB g.outer = true
  inn : namesB (innerN g) = true
  nod : ∀ (i : Nat) (x : Nod), g.nodes[i]? = some x → (0 ≤ x.1 ∧ x.1 < sig.length) ∧ UnderP sig g x.2.1 i ∧ (x.2.2.length : Int) = portsA sig x.1 ∧ ∀ l ∈ x.2.2, LinkP g l
  sit : ∀ p ∈ g.sites, UnderP sig g p g.nodes.length
  inr : ∀ x ∈ g.inner, LinkP g x.2
theorem link_iff (g : Gr) (l : Int) : linkB g l = true ↔ LinkP g l := by
  unfold linkB inB LinkP
  simp
  omega
theorem under_iff (sig : List Ct) (g : Gr) (p below : Int) : underB sig g p below = true ↔ UnderP sig g p below := by
  unfold underB UnderP
  by_cases h : p < 0
  · simp [h]; omega
  simp [h]; omega
theorem mem_getD {α : Type} {l : List α} {d : α} {P : α → Prop} : (∀ x ∈ l, P x) ↔ ∀ i, i < l.length → P (l.getD i d) := by
  constructor
  · intro h i hi
    exact h _ (List.mem_of_getElem? (getD_lt hi))
  intro h x hx
  obtain ⟨i, hi, e⟩ := List.getElem_of_mem hx
  have := h i hi
  rw [getD_some (x := x) (by rw [List.getElem?_eq_getElem hi, e])] at this
  exact this
theorem allR_iff {n : Nat} {p : Nat → Bool} : allR n p = true ↔ ∀ j, j < n → p j = true := ⟨fun h j hj => allR_get h hj, allR_true⟩
theorem nod_iff (sig : List Ct) (g : Gr) (i : Nat) : nodB sig g i = true ↔ (0 ≤ (nodA g i).1 ∧ (nodA g i).1 < sig.length) ∧ UnderP sig g (nodA g i).2.1 i ∧ ((nodA g i).2.2.length : Int) = portsA sig (nodA g i).1 ∧ ∀ l ∈ (nodA g i).2.2, LinkP g l := by
  unfold nodB
  rw [Bool.and_eq_true, Bool.and_eq_true, Bool.and_eq_true, under_iff, allR_iff, mem_getD (d := 0)]
  simp only [link_iff, beq_iff_eq]
  have h : inB (nodA g i).1 0 ((sig.length : Int) - 1) = true ↔ (0 ≤ (nodA g i).1 ∧ (nodA g i).1 < (sig.length : Int)) := by
    unfold inB; simp; omega
  rw [h]
  constructor
  · rintro ⟨⟨⟨a, b⟩, c⟩, d⟩; exact ⟨a, b, c, d⟩
  rintro ⟨a, b, c, d⟩; exact ⟨⟨⟨a, b⟩, c⟩, d⟩
theorem good_iff (sig : List Ct) (g : Gr) : goodG sig g = true ↔ GoodP sig g := by
  rw [goodG_of]
  simp only [Bool.and_eq_true]
  constructor
  · rintro ⟨⟨⟨⟨⟨h1, h2⟩, h3⟩, h4⟩, h5⟩, h6⟩
    unfold headB at h1
    simp only [Bool.and_eq_true, decide_eq_true_eq] at h1
    obtain ⟨⟨⟨⟨a1, a2⟩, a3⟩, a4⟩, a5⟩ := h1
    refine ⟨a1, inB_true a2, a3, a4, inB_true a5, h2, h3, fun i x hx => ?_, ?_, ?_⟩
    · have hi := (List.getElem?_eq_some_iff.1 hx).1
      have h := (nod_iff sig g i).1 (allR_get h4 hi)
      have e : nodA g i = x := getD_some hx
      rw [e] at h
      exact h
    · rw [mem_getD (d := 0)]
      exact fun i hi => (under_iff _ _ _ _).1 (allR_get h5 hi)
    rw [mem_getD (d := wi0)]
    exact fun i hi => (link_iff _ _).1 (allR_get h6 hi)
  intro h
  refine ⟨⟨⟨⟨⟨?_, h.on⟩, h.inn⟩, ?_⟩, ?_⟩, ?_⟩
  · unfold headB inB
    simp only [Bool.and_eq_true, decide_eq_true_eq]
    exact ⟨⟨⟨⟨h.sg, h.r⟩, h.n8⟩, h.s4⟩, h.e⟩
  · exact allR_true fun i hi => (nod_iff sig g i).2 (h.nod i _ (getD_lt hi))
  · exact allR_true fun i hi => (under_iff _ _ _ _).2 (mem_getD.1 h.sit i hi)
  exact allR_true fun i hi => (link_iff _ _).2 (mem_getD.1 h.inr i hi)

/-- What a link of a becomes, and one of b, in a after b. -/
def upL (a b : Gr) (l : Int) : Int := if l < a.edges then l else l + b.edges
def dnL (a b : Gr) (l : Int) : Int := if l < b.edges then l + a.edges else upL a b (wiA a (l - b.edges).toNat).2
def dnP (a : Gr) (p : Int) : Int := if p < 0 then a.sites.getD (-1 - p).toNat 0 else p + a.nodes.length
def compG (a b : Gr) : Gr :=
  ⟨a.roots, a.nodes.map (fun x => (x.1, x.2.1, x.2.2.map (upL a b))) ++ b.nodes.map (fun x => (x.1, dnP a x.2.1, x.2.2.map (dnL a b))), b.sites.map (dnP a), a.edges + b.edges, a.outer, b.inner.map (fun w => (w.1, dnL a b w.2))⟩
def FitsP (a b : Gr) : Prop := (a.sites.length : Int) = b.roots ∧ innerN a = b.outer

section
variable {sig : List Ct} {a b c : Gr}
theorem fits_len (h : FitsP a b) : a.inner.length = b.outer.length := by rw [← h.2]; simp [innerN]
theorem wi_link (ha : GoodP sig a) {k : Nat} (hk : k < a.inner.length) : LinkP a (wiA a k).2 := ha.inr _ (List.mem_of_getElem? (getD_lt hk))
theorem len_comp : (compG a b).nodes.length = a.nodes.length + b.nodes.length := by unfold compG; simp
/-- The identity of some roots and names. -/
def idG (n : Nat) (names : List ByteArray) : Gr := ⟨n, [], (List.range n).map fun i : Nat => -1 - (i : Int), 0, names, (List.range names.length).map fun i : Nat => (names.getD i default, (i : Int))⟩
theorem idG_inner (n : Nat) (names : List ByteArray) : innerN (idG n names) = names := by
  unfold innerN idG
  simp only [List.map_map]
  apply List.ext_getElem
  · simp
  intro i h1 h2
  simp only [List.getElem_map, List.getElem_range, Function.comp]
  exact getD_some (List.getElem?_eq_getElem h2)
theorem gr_ext : ∀ (x y : Gr), x.roots = y.roots → x.nodes = y.nodes → x.sites = y.sites → x.edges = y.edges → x.outer = y.outer → x.inner = y.inner → x = y := by
  rintro ⟨⟩ ⟨⟩ h1 h2 h3 h4 h5 h6
  simp only at h1 h2 h3 h4 h5 h6
  subst h1; subst h2; subst h3; subst h4; subst h5; subst h6
  rfl
theorem map_same {α : Type} {f : α → α} {l : List α} (h : ∀ x ∈ l, f x = x) : l.map f = l := by
  have := List.map_congr_left h
  rw [this]; simp
end

end Go.Proofs.YtijkdpdmclkmlaaGreatDoor
