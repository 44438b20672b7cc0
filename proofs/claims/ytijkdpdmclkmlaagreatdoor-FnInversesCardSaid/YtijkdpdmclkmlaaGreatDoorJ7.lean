/- The plain law of composition: what a composition is, when it is valid, that it is associative, and identities. The plain law of composition, second part: what the program makes, and what the reference makes, is the composition. Plain: names that ascend strictly are different from one another, and none is empty. Names put in order, each once: by insertion. No program is in sight. Rows of one's own: what keeps them apart. No program is in sight. -/
import Derived.Test.YtijkdpdmclkmlaaGreatDoorProg
import Derived.Test.YtijkdpdmclkmlaaGreatDoorJ6
import Derived.Test.YtijkdpdmclkmlaaGreatDoorJ0
import Derived.Test.YtijkdpdmclkmlaaGreatDoorJ1
set_option linter.unusedSimpArgs false
set_option linter.unusedVariables false
set_option maxRecDepth 100000
set_option maxHeartbeats 16000000
namespace Go.Proofs.YtijkdpdmclkmlaaGreatDoor
open Go.RowKit
theorem getD_some {α : Type} {l : List α} {i : Nat} {x d : α} (h : l[i]? = some x) : l.getD i d = x := by rw [List.getD_eq_getElem?_getD, h]; rfl
theorem getD_lt {α : Type} {l : List α} {i : Nat} {d : α} (h : i < l.length) : l[i]? = some (l.getD i d) := by rw [List.getD_eq_getElem?_getD, List.getElem?_eq_getElem h]; rfl

def LinkP (g : Gr) (l : Int) : Prop := 0 ≤ l ∧ l < g.edges + g.outer.length
def UnderP (sig : List Ct) (g : Gr) (p below : Int) : Prop := (p < 0 → -g.roots ≤ p) ∧ (0 ≤ p → p < below ∧ kindA sig (nodA g p.toNat).1 ≠ 2)
/-- What a valid bigraph is, told by its places. -/
structure GoodP (sig : List Ct) (g : Gr) : Prop where
  sg : sigB sig = true
  r : 0 ≤ g.roots ∧ g.roots ≤ 4
  n8 : g.nodes.length ≤ 8
  s4 : g.sites.length ≤ 4
  e : 0 ≤ g.edges ∧ g.edges ≤ 8
  on : namesB g.outer = true
  inn : namesB (innerN g) = true
  nod : ∀ (i : Nat) (x : Nod), g.nodes[i]? = some x → (0 ≤ x.1 ∧ x.1 < sig.length) ∧ UnderP sig g x.2.1 i ∧ (x.2.2.length : Int) = portsA sig x.1 ∧ ∀ l ∈ x.2.2, LinkP g l
  sit : ∀ p ∈ g.sites, UnderP sig g p g.nodes.length
  inr : ∀ x ∈ g.inner, LinkP g x.2
theorem link_iff (g : Gr) (l : Int) : linkB g l = true ↔ LinkP g l := by
  unfold linkB inB LinkP
  simp
  omega
theorem under_iff (sig : List Ct) (g : Gr) (p below : Int) : underB sig g p below = true ↔ UnderP sig g p below := by
  unfold underB UnderP
  by_cases h : p < 0
  · simp [h]; omega
  simp [h]; omega
theorem mem_getD {α : Type} {l : List α} {d : α} {P : α → Prop} : (∀ x ∈ l, P x) ↔ ∀ i, i < l.length → P (l.getD i d) := by
  constructor
  · intro h i hi
    exact h _ (List.mem_of_getElem? (getD_lt hi))
  intro h x hx
  obtain ⟨i, hi, e⟩ := List.getElem_of_mem hx
  have := h i hi
  rw [getD_some (x := x) (by rw [List.getElem?_eq_getElem hi, e])] at this
  exact this
theorem allR_iff {n : Nat} {p : Nat → Bool} : allR n p = true ↔ ∀ j, j < n → p j = true := ⟨fun h j hj => allR_get h hj, allR_true⟩
theorem nod_iff (sig : List Ct) (g : Gr) (i : Nat) : nodB sig g i = true ↔ (0 ≤ (nodA g i).1 ∧ (nodA g i).1 < sig.length) ∧ UnderP sig g (nodA g i).2.1 i ∧ ((nodA g i).2.2.length : Int) = portsA sig (nodA g i).1 ∧ ∀ l ∈ (nodA g i).2.2, LinkP g l := by
  unfold nodB
  rw [Bool.and_eq_true, Bool.and_eq_true, Bool.and_eq_true, under_iff, allR_iff, mem_getD (d := 0)]
  simp only [link_iff, beq_iff_eq]
  have h : inB (nodA g i).1 0 ((sig.length : Int) - 1) = true ↔ (0 ≤ (nodA g i).1 ∧ (nodA g i).1 < (sig.length : Int)) := by
    unfold inB; simp; omega
  rw [h]
  constructor
  · rintro ⟨⟨⟨a, b⟩, c⟩, d⟩; exact ⟨a, b, c, d⟩
  rintro ⟨a, b, c, d⟩; exact ⟨⟨⟨a, b⟩, c⟩, d⟩
theorem good_iff (sig : List Ct) (g : Gr) : goodG sig g = true ↔ GoodP sig g := by
  rw [goodG_of]
  simp only [Bool.and_eq_true]
  constructor
  · rintro ⟨⟨⟨⟨⟨h1, h2⟩, h3⟩, h4⟩, h5⟩, h6⟩
    unfold headB at h1
    simp only [Bool.and_eq_true, decide_eq_true_eq] at h1
    obtain ⟨⟨⟨⟨a1, a2⟩, a3⟩, a4⟩, a5⟩ := h1
    refine ⟨a1, inB_true a2, a3, a4, inB_true a5, h2, h3, fun i x hx => ?_, ?_, ?_⟩
    · have hi := (List.getElem?_eq_some_iff.1 hx).1
      have h := (nod_iff sig g i).1 (allR_get h4 hi)
      have e : nodA g i = x := getD_some hx
      rw [e] at h
      exact h
    · rw [mem_getD (d := 0)]
      exact fun i hi => (under_iff _ _ _ _).1 (allR_get h5 hi)
    rw [mem_getD (d := wi0)]
    exact fun i hi => (link_iff _ _).1 (allR_get h6 hi)
  intro h
  refine ⟨⟨⟨⟨⟨?_, h.on⟩, h.inn⟩, ?_⟩, ?_⟩, ?_⟩
  · unfold headB inB
    simp only [Bool.and_eq_true, decide_eq_true_eq]
    exact ⟨⟨⟨⟨h.sg, h.r⟩, h.n8⟩, h.s4⟩, h.e⟩
  · exact allR_true fun i hi => (nod_iff sig g i).2 (h.nod i _ (getD_lt hi))
  · exact allR_true fun i hi => (under_iff _ _ _ _).2 (mem_getD.1 h.sit i hi)
  exact allR_true fun i hi => (link_iff _ _).2 (mem_getD.1 h.inr i hi)

/-- What a link of a becomes, and one of b, in a after b. -/
def upL (a b : Gr) (l : Int) : Int := if l < a.edges then l else l + b.edges
def dnL (a b : Gr) (l : Int) : Int := if l < b.edges then l + a.edges else upL a b (wiA a (l - b.edges).toNat).2
def dnP (a : Gr) (p : Int) : Int := if p < 0 then a.sites.getD (-1 - p).toNat 0 else p + a.nodes.length
def compG (a b : Gr) : Gr :=
  ⟨a.roots, a.nodes.map (fun x => (x.1, x.2.1, x.2.2.map (upL a b))) ++ b.nodes.map (fun x => (x.1, dnP a x.2.1, x.2.2.map (dnL a b))), b.sites.map (dnP a), a.edges + b.edges, a.outer, b.inner.map (fun w => (w.1, dnL a b w.2))⟩
def FitsP (a b : Gr) : Prop := (a.sites.length : Int) = b.roots ∧ innerN a = b.outer

section
variable {sig : List Ct} {a b c : Gr}
theorem fits_len (h : FitsP a b) : a.inner.length = b.outer.length := by rw [← h.2]; simp [innerN]
theorem wi_link (ha : GoodP sig a) {k : Nat} (hk : k < a.inner.length) : LinkP a (wiA a k).2 := ha.inr _ (List.mem_of_getElem? (getD_lt hk))
theorem len_comp : (compG a b).nodes.length = a.nodes.length + b.nodes.length := by unfold compG; simp
/-- The identity of some roots and names. -/
def idG (n : Nat) (names : List ByteArray) : Gr := ⟨n, [], (List.range n).map fun i : Nat => -1 - (i : Int), 0, names, (List.range names.length).map fun i : Nat => (names.getD i default, (i : Int))⟩
theorem idG_inner (n : Nat) (names : List ByteArray) : innerN (idG n names) = names := by
  unfold innerN idG
  simp only [List.map_map]
  apply List.ext_getElem
  · simp
  intro i h1 h2
  simp only [List.getElem_map, List.getElem_range, Function.comp]
  exact getD_some (List.getElem?_eq_getElem h2)
theorem gr_ext : ∀ (x y : Gr), x.roots = y.roots → x.nodes = y.nodes → x.sites = y.sites → x.edges = y.edges → x.outer = y.outer → x.inner = y.inner → x = y := by
  rintro ⟨⟩ ⟨⟩ h1 h2 h3 h4 h5 h6
  simp only at h1 h2 h3 h4 h5 h6
  subst h1; subst h2; subst h3; subst h4; subst h5; subst h6
  rfl
theorem map_same {α : Type} {f : α → α} {l : List α} (h : ∀ x ∈ l, f x = x) : l.map f = l := by
  have := List.map_congr_left h
  rw [this]; simp
end

/-- What a link is: an edge, or an outer name. -/
abbrev En := Int × ByteArray
def bE : ByteArray := ⟨#[]⟩
def endG (g : Gr) (l : Int) : En := if l < g.edges then (l, bE) else (0, g.outer.getD (l - g.edges).toNat default)
/-- Where a name stands in a list, or -1. -/
def atS : List ByteArray → ByteArray → Int
  | [], _ => -1
  | x :: l, s => if x = s then 0 else (if atS l s = -1 then -1 else atS l s + 1)
def toLink (edges : Int) (outs : List ByteArray) (e : En) : Int := if e.2 = bE then e.1 else edges + atS outs e.2
def relinkG (g : Gr) (edges : Int) (outs : List ByteArray) (turn : En → En) : Gr :=
  { g with edges := edges, outer := outs, nodes := g.nodes.map fun x => (x.1, x.2.1, x.2.2.map fun l => toLink edges outs (turn (endG g l))), inner := g.inner.map fun w => (w.1, toLink edges outs (turn (endG g w.2))) }
def movedG (a : Gr) (place : Int → Int) (p : Int) : Int := if 0 ≤ p then p + a.nodes.length else place p
def rightT (a : Gr) (name : ByteArray → En) (e : En) : En := if e.2 = bE then (e.1 + a.edges, bE) else name e.2
def joinedG (a b : Gr) (roots : Int) (sites : List Int) (outs : List ByteArray) (place : Int → Int) (name : ByteArray → En) : Gr :=
  ⟨roots, (relinkG a (a.edges + b.edges) outs id).nodes ++ (relinkG b (a.edges + b.edges) outs (rightT a name)).nodes.map (fun x => (x.1, movedG a place x.2.1, x.2.2)), sites ++ b.sites.map (movedG a place), a.edges + b.edges, outs, (relinkG b (a.edges + b.edges) outs (rightT a name)).inner⟩
def underA (a : Gr) (p : Int) : Int := a.sites.getD (-1 - p).toNat 0
def nameA (a : Gr) (s : ByteArray) : En := endG a (wiA a (atS (innerN a) s).toNat).2
def composedG (a b : Gr) (outs : List ByteArray) : Gr := joinedG a b a.roots [] outs (underA a) (nameA a)

structure NamesP (l : List ByteArray) : Prop where
  nd : l.Nodup
  ne : ∀ s ∈ l, s ≠ bE
theorem atS_mem : ∀ {l : List ByteArray} {s : ByteArray}, s ∈ l → 0 ≤ atS l s
  | [], _, h => by simp at h
  | x :: l, s, h => by
    unfold atS
    split
    · omega
    rename_i hne
    have h2 : s ∈ l := by
      rcases List.mem_cons.1 h with h | h
      · exact absurd h.symm hne
      exact h
    have := atS_mem h2
    split <;> omega
theorem atS_get : ∀ {l : List ByteArray} {k : Nat}, l.Nodup → k < l.length → atS l (l.getD k default) = (k : Int)
  | [], _, _, h => by simp at h
  | x :: l, 0, _, _ => by unfold atS; simp
  | x :: l, k + 1, hn, h => by
    have hk : k < l.length := by simpa using h
    have ih := atS_get (k := k) (List.nodup_cons.1 hn).2 hk
    have hm : l.getD k default ∈ l := List.mem_of_getElem? (getD_lt hk)
    have hne : x ≠ l.getD k default := fun e => (List.nodup_cons.1 hn).1 (e ▸ hm)
    have e1 : (x :: l).getD (k + 1) default = l.getD k default := by simp [List.getD]
    rw [e1]
    unfold atS
    rw [if_neg hne, ih, if_neg (by omega)]
    omega

section
variable {sig : List Ct} {a b : Gr}
theorem end_left (ha : GoodP sig a) (hb : GoodP sig b) (hn : NamesP a.outer) {l : Int} (hl : LinkP a l) : toLink (a.edges + b.edges) a.outer (endG a l) = upL a b l := by
  unfold endG toLink upL
  split
  · simp
  rename_i h
  unfold LinkP at hl
  have hk : (l - a.edges).toNat < a.outer.length := by omega
  have hm := hn.ne _ (List.mem_of_getElem? (getD_lt (d := default) hk))
  simp only
  rw [if_neg hm, atS_get hn.nd hk]
  omega
theorem end_right (ha : GoodP sig a) (hb : GoodP sig b) (hf : FitsP a b) (hn : NamesP a.outer) (hi : (innerN a).Nodup) (hm : NamesP b.outer) {l : Int} (hl : LinkP b l) : toLink (a.edges + b.edges) a.outer (rightT a (nameA a) (endG b l)) = dnL a b l := by
  unfold dnL
  by_cases h : l < b.edges
  · rw [if_pos h]
    unfold endG rightT toLink
    rw [if_pos h]
    simp
  rw [if_neg h]
  unfold LinkP at hl
  have hk : (l - b.edges).toNat < b.outer.length := by omega
  have hne := hm.ne _ (List.mem_of_getElem? (getD_lt (d := default) hk))
  have e1 : endG b l = (0, b.outer.getD (l - b.edges).toNat default) := by unfold endG; rw [if_neg h]
  have e2 : rightT a (nameA a) (endG b l) = nameA a (b.outer.getD (l - b.edges).toNat default) := by
    rw [e1]; unfold rightT; rw [if_neg hne]
  have e3 : atS (innerN a) (b.outer.getD (l - b.edges).toNat default) = ((l - b.edges).toNat : Int) := by
    rw [← hf.2]
    exact atS_get hi (by rw [hf.2]; exact hk)
  rw [e2]
  unfold nameA
  rw [e3]
  have h3 := fits_len hf
  rw [Int.toNat_natCast]
  exact end_left ha hb hn (wi_link ha (by omega))
theorem moved_place (p : Int) : movedG a (underA a) p = dnP a p := by
  unfold movedG dnP underA
  by_cases h : p < 0
  · rw [if_neg (by omega), if_pos h]
  rw [if_pos (by omega), if_neg h]
/-- What the program makes is the composition. -/
theorem composed_eq (ha : GoodP sig a) (hb : GoodP sig b) (hf : FitsP a b) (hn : NamesP a.outer) (hi : (innerN a).Nodup) (hm : NamesP b.outer) : composedG a b a.outer = compG a b := by
  refine gr_ext _ _ rfl ?_ ?_ rfl rfl ?_
  · show (a.nodes.map _) ++ ((b.nodes.map _).map _) = a.nodes.map _ ++ b.nodes.map _
    rw [List.map_map]
    congr 1
    · refine List.map_congr_left fun x hx => ?_
      obtain ⟨i, hi', e⟩ := List.getElem_of_mem hx
      obtain ⟨_, _, _, b4⟩ := ha.nod i x (by rw [List.getElem?_eq_getElem hi', e])
      exact Prod.ext rfl (Prod.ext rfl (List.map_congr_left fun l hl => end_left ha hb hn (b4 l hl)))
    refine List.map_congr_left fun x hx => ?_
    obtain ⟨i, hi', e⟩ := List.getElem_of_mem hx
    obtain ⟨_, _, _, b4⟩ := hb.nod i x (by rw [List.getElem?_eq_getElem hi', e])
    exact Prod.ext rfl (Prod.ext (moved_place _) (List.map_congr_left fun l hl => end_right ha hb hf hn hi hm (b4 l hl)))
  · show [] ++ b.sites.map _ = b.sites.map _
    rw [List.nil_append]
    exact List.map_congr_left fun p _ => moved_place p
  show b.inner.map _ = b.inner.map _
  refine List.map_congr_left fun x hx => ?_
  rw [end_right ha hb hf hn hi hm (hb.inr x hx)]
end
/-- The reference's composition. -/
def edgesL (from_ n : Int) : List Int := (List.range n.toNat).map fun i : Nat => from_ + (i : Int)
def rootsL (from_ n : Int) : List Int := (List.range n.toNat).map fun r : Nat => -1 - from_ - (r : Int)
def atI (l : List Int) (k : Int) : Int := l.getD k.toNat 0
def parentS (by_ : Int) (ps : List Int) (p : Int) : Int := if p < 0 then atI ps (-1 - p) else p + by_
def nodesS (b : Gr) (by_ : Int) (ps links : List Int) : List Nod := b.nodes.map fun x => (x.1, parentS by_ ps x.2.1, x.2.2.map (atI links))
def wiresS (b : Gr) (links : List Int) : List Wi := b.inner.map fun w => (w.1, atI links w.2)
def namedS (names : List ByteArray) (edges : Int) (outer : List ByteArray) : List Int := names.map fun s => edges + atS outer s
def holesS (a : Gr) : List Int := a.sites.map (parentS 0 (rootsL 0 a.roots))
def underG (a b : Gr) (outer : List ByteArray) (above below : List Int) : Gr :=
  ⟨a.roots, nodesS a 0 (rootsL 0 a.roots) (edgesL 0 a.edges ++ above) ++ nodesS b a.nodes.length (holesS a) (edgesL a.edges b.edges ++ below), b.sites.map (parentS a.nodes.length (holesS a)), a.edges + b.edges, outer, wiresS b (edgesL a.edges b.edges ++ below)⟩
def aboveS (a b : Gr) : List Int := namedS a.outer (a.edges + b.edges) a.outer
def afterG (a b : Gr) : Gr := underG a b a.outer (aboveS a b) (a.inner.map fun w => atI (edgesL 0 a.edges ++ aboveS a b) w.2)

theorem edges_len (f n : Int) : (edgesL f n).length = n.toNat := by simp [edgesL]
theorem edges_at {f n l : Int} {r : List Int} (h0 : 0 ≤ l) (h1 : l < n) : atI (edgesL f n ++ r) l = f + l := by
  unfold atI
  have e : (edgesL f n ++ r)[l.toNat]? = some (f + (l.toNat : Int)) := by
    rw [List.getElem?_append_left (by rw [edges_len]; omega)]
    unfold edgesL
    rw [List.getElem?_map, List.getElem?_range (by omega)]
    rfl
  rw [getD_some e]
  omega
theorem edges_behind {f n l : Int} {r : List Int} (hn : 0 ≤ n) (h1 : n ≤ l) : atI (edgesL f n ++ r) l = r.getD (l - n).toNat 0 := by
  unfold atI
  rw [List.getD_eq_getElem?_getD, List.getD_eq_getElem?_getD, List.getElem?_append_right (by rw [edges_len]; omega), edges_len, show l.toNat - n.toNat = (l - n).toNat by omega]
section
variable {sig : List Ct} {a b : Gr}
theorem left_up (ha : GoodP sig a) (hn : NamesP a.outer) {l : Int} (hl : LinkP a l) : atI (edgesL 0 a.edges ++ aboveS a b) l = upL a b l := by
  have h1 := ha.e
  unfold LinkP at hl
  unfold upL
  split
  · rename_i h
    rw [edges_at hl.1 h]; omega
  have hk : (l - a.edges).toNat < a.outer.length := by omega
  rw [edges_behind h1.1 (by omega)]
  have e : (aboveS a b)[(l - a.edges).toNat]? = some (a.edges + b.edges + ((l - a.edges).toNat : Int)) := by
    unfold aboveS namedS
    rw [List.getElem?_map, getD_lt (d := default) hk, Option.map_some, atS_get hn.nd hk]
  rw [getD_some e]
  omega
theorem right_dn (ha : GoodP sig a) (hb : GoodP sig b) (hf : FitsP a b) (hn : NamesP a.outer) {l : Int} (hl : LinkP b l) : atI (edgesL a.edges b.edges ++ a.inner.map fun w => atI (edgesL 0 a.edges ++ aboveS a b) w.2) l = dnL a b l := by
  have h2 := hb.e
  have h3 := fits_len hf
  unfold LinkP at hl
  unfold dnL
  split
  · rename_i h
    rw [edges_at hl.1 h]; omega
  have hk : (l - b.edges).toNat < a.inner.length := by omega
  rw [edges_behind h2.1 (by omega), getD_some (x := atI (edgesL 0 a.edges ++ aboveS a b) (wiA a (l - b.edges).toNat).2) (by rw [List.getElem?_map, getD_lt (d := wi0) hk]; rfl)]
  exact left_up ha hn (wi_link ha hk)
theorem root_same (ha : GoodP sig a) {p : Int} (h : p < 0 → -a.roots ≤ p) : parentS 0 (rootsL 0 a.roots) p = p := by
  unfold parentS
  split
  · rename_i hp
    have h1 := h hp
    unfold atI
    rw [getD_some (x := -1 - 0 - ((-1 - p).toNat : Int)) (by unfold rootsL; rw [List.getElem?_map, List.getElem?_range (by omega)]; rfl)]
    omega
  omega
theorem holes_same (ha : GoodP sig a) : holesS a = a.sites := map_same fun p hp => root_same ha (ha.sit p hp).1
theorem hole_dn (ha : GoodP sig a) (p : Int) : parentS a.nodes.length (holesS a) p = dnP a p := by
  rw [holes_same ha]
  rfl
/-- What the reference makes is the composition. -/
theorem after_eq (ha : GoodP sig a) (hb : GoodP sig b) (hf : FitsP a b) (hn : NamesP a.outer) : afterG a b = compG a b := by
  refine gr_ext _ _ rfl ?_ ?_ rfl rfl ?_
  · show (a.nodes.map _) ++ (b.nodes.map _) = a.nodes.map _ ++ b.nodes.map _
    congr 1
    · refine List.map_congr_left fun x hx => ?_
      obtain ⟨i, hi', e⟩ := List.getElem_of_mem hx
      obtain ⟨_, b2, _, b4⟩ := ha.nod i x (by rw [List.getElem?_eq_getElem hi', e])
      exact Prod.ext rfl (Prod.ext (root_same ha b2.1) (List.map_congr_left fun l hl => left_up ha hn (b4 l hl)))
    refine List.map_congr_left fun x hx => ?_
    obtain ⟨i, hi', e⟩ := List.getElem_of_mem hx
    obtain ⟨_, _, _, b4⟩ := hb.nod i x (by rw [List.getElem?_eq_getElem hi', e])
    exact Prod.ext rfl (Prod.ext (hole_dn ha _) (List.map_congr_left fun l hl => right_dn ha hb hf hn (b4 l hl)))
  · show b.sites.map _ = b.sites.map _
    exact List.map_congr_left fun p _ => hole_dn ha p
  show b.inner.map _ = b.inner.map _
  refine List.map_congr_left fun x hx => ?_
  rw [right_dn ha hb hf hn (hb.inr x hx)]
end

theorem bytes_trans : ∀ (x y z : List UInt8), Op.bytesLess x y = true → Op.bytesLess y z = true → Op.bytesLess x z = true
  | [], [], _, h, _ => by simp [Op.bytesLess] at h
  | _ :: _, [], _, h, _ => by simp [Op.bytesLess] at h
  | _, _ :: _, [], _, h => by simp [Op.bytesLess] at h
  | [], _ :: _, _ :: _, _, _ => by simp [Op.bytesLess]
  | a :: x, b :: y, c :: z, h1, h2 => by
    simp only [Op.bytesLess, Bool.or_eq_true, Bool.and_eq_true, decide_eq_true_eq, beq_iff_eq] at h1 h2 ⊢
    rcases h1 with h1 | ⟨rfl, h1⟩
    · rcases h2 with h2 | ⟨rfl, h2⟩
      · left
        rw [UInt8.lt_iff_toNat_lt] at h1 h2 ⊢
        omega
      exact .inl h1
    rcases h2 with h2 | ⟨rfl, h2⟩
    · exact .inl h2
    exact .inr ⟨rfl, bytes_trans x y z h1 h2⟩
theorem less_trans {a b c : ByteArray} (h1 : lessS a b = true) (h2 : lessS b c = true) : lessS a c = true := bytes_trans _ _ _ h1 h2
theorem less_ne {a b : ByteArray} (h : lessS a b = true) : a ≠ b := fun e => by
  subst e
  unfold lessS at h
  rw [bytes_irr] at h
  cases h
theorem names_at {l : List ByteArray} (h : namesB l = true) {i : Nat} (hi : i < l.length) : nameB (l.getD i default) = true ∧ (i ≠ 0 → lessS (l.getD (i - 1) default) (l.getD i default) = true) := by
  unfold namesB at h
  rw [Bool.and_eq_true] at h
  have h1 := allR_get h.1 hi
  unfold nameAt at h1
  rw [Bool.and_eq_true, Bool.or_eq_true, beq_iff_eq] at h1
  exact ⟨h1.1, fun h0 => h1.2.resolve_left h0⟩
theorem names_lt {l : List ByteArray} (h : namesB l = true) : ∀ (j i : Nat), i < j → j < l.length → lessS (l.getD i default) (l.getD j default) = true
  | 0, i, h1, _ => by omega
  | j + 1, i, h1, h2 => by
    have h3 := (names_at h h2).2 (by omega)
    rw [Nat.add_sub_cancel] at h3
    by_cases he : i = j
    · subst he; exact h3
    exact less_trans (names_lt h j i (by omega) (by omega)) h3
theorem name_ne {s : ByteArray} (h : nameB s = true) : s ≠ bE := fun e => by
  subst e
  unfold nameB at h
  rw [Bool.and_eq_true] at h
  have := inB_true h.1
  have h0 : (bE.size : Int) = 0 := rfl
  omega
theorem names_np {l : List ByteArray} (h : namesB l = true) : NamesP l := by
  refine ⟨?_, ?_⟩
  · rw [List.Nodup, List.pairwise_iff_getElem]
    intro i j hi hj hij e
    have a1 : l.getD i default = l[i] := getD_some (List.getElem?_eq_getElem hi)
    have a2 : l.getD j default = l[j] := getD_some (List.getElem?_eq_getElem hj)
    have h1 := names_lt h j i hij hj
    rw [a1, a2] at h1
    exact less_ne h1 e
  rw [mem_getD (d := default)]
  exact fun i hi => name_ne (names_at h hi).1
theorem names_none : namesB [] = true := rfl
theorem names_len {l : List ByteArray} (h : namesB l = true) : l.length ≤ 16 := by
  unfold namesB at h
  rw [Bool.and_eq_true, decide_eq_true_eq] at h
  exact h.2
/-- For valid bigraphs that fit, both packages make the composition. -/
theorem both_comp {sig : List Ct} {a b : Gr} (ha : GoodP sig a) (hb : GoodP sig b) (hf : FitsP a b) : composedG a b a.outer = compG a b ∧ afterG a b = compG a b :=
  ⟨composed_eq ha hb hf (names_np ha.on) (names_np ha.inn).nd (names_np hb.on), after_eq ha hb hf (names_np ha.on)⟩

def lowN (s : ByteArray) : List ByteArray → Nat
  | [] => 0
  | y :: r => if lessS y s then lowN s r + 1 else 0
def putS (o : List ByteArray) (s : ByteArray) : List ByteArray := if lowN s o = o.length ∨ o.getD (lowN s o) default ≠ s then o.take (lowN s o) ++ [s] ++ o.drop (lowN s o) else o
def sortS (l : List ByteArray) : List ByteArray := l.foldl putS []

theorem low_le (s : ByteArray) : ∀ o : List ByteArray, lowN s o ≤ o.length
  | [] => Nat.le_refl _
  | y :: r => by
    have := low_le s r
    unfold lowN
    split
    · simp; omega
    simp
theorem low_lt (s : ByteArray) : ∀ (o : List ByteArray) (j : Nat), j < lowN s o → lessS (o.getD j default) s = true
  | [], j, h => by simp [lowN] at h
  | y :: r, j, h => by
    unfold lowN at h
    split at h
    · rename_i hy
      cases j with
      | zero => exact hy
      | succ j => exact low_lt s r j (by omega)
    omega
theorem low_at (s : ByteArray) : ∀ (o : List ByteArray), lowN s o < o.length → lessS (o.getD (lowN s o) default) s = false
  | [], h => by simp at h
  | y :: r, h => by
    unfold lowN at h ⊢
    split
    · rename_i hy
      rw [if_pos hy] at h
      exact low_at s r (by simpa using h)
    rename_i hy
    simpa using hy
theorem low_of {s : ByteArray} {o : List ByteArray} {m : Nat} (hm : m ≤ o.length) (h1 : ∀ j, j < m → lessS (o.getD j default) s = true) (h2 : m < o.length → lessS (o.getD m default) s = false) : m = lowN s o := by
  rcases Nat.lt_trichotomy m (lowN s o) with h | h | h
  · have a := low_lt s o m h
    rw [h2 (by have := low_le s o; omega)] at a
    cases a
  · exact h
  have a := low_at s o (by omega)
  rw [h1 _ h] at a
  cases a
theorem put_len (o : List ByteArray) (s : ByteArray) : (putS o s).length ≤ o.length + 1 := by
  unfold putS
  split
  · have := low_le s o
    simp; omega
  omega
theorem put_mem {o : List ByteArray} {s x : ByteArray} : x ∈ putS o s ↔ x ∈ o ∨ x = s := by
  unfold putS
  split
  · rw [List.append_assoc, List.mem_append, List.mem_append, List.mem_singleton]
    have h := @List.take_append_drop ByteArray (lowN s o) o
    constructor
    · rintro (h1 | h1 | h1)
      · exact .inl (List.mem_of_mem_take h1)
      · exact .inr h1
      exact .inl (List.mem_of_mem_drop h1)
    rintro (h1 | h1)
    · rw [← h, List.mem_append] at h1
      rcases h1 with h1 | h1
      · exact .inl h1
      exact .inr (.inr h1)
    exact .inr (.inl h1)
  rename_i h
  have h1 : ¬ lowN s o = o.length := fun e => h (.inl e)
  have h2 : o.getD (lowN s o) default = s := Classical.byContradiction fun e => h (.inr e)
  constructor
  · exact .inl
  rintro (h3 | rfl)
  · exact h3
  have hl : lowN x o < o.length := by have := low_le x o; omega
  rw [← h2]
  exact List.mem_of_getElem? (getD_lt hl)
theorem sortS_next {l : List ByteArray} {k : Nat} (h : k < l.length) : sortS (l.take (k + 1)) = putS (sortS (l.take k)) (l.getD k default) := by
  unfold sortS
  rw [List.take_add_one, getD_lt (d := default) h, List.foldl_append]
  rfl
theorem foldl_len : ∀ (l o : List ByteArray), (l.foldl putS o).length ≤ o.length + l.length
  | [], o => by simp
  | s :: l, o => by
    have h1 := foldl_len l (putS o s)
    have h2 := put_len o s
    simp only [List.foldl_cons, List.length_cons]
    omega
theorem sortS_len (l : List ByteArray) : (sortS l).length ≤ l.length := by
  have := foldl_len l []
  unfold sortS
  simpa using this
theorem foldl_mem {x : ByteArray} : ∀ {l o : List ByteArray}, x ∈ l.foldl putS o ↔ x ∈ o ∨ x ∈ l
  | [], o => by simp
  | s :: l, o => by
    rw [List.foldl_cons, foldl_mem (l := l), put_mem, List.mem_cons]
    constructor
    · rintro ((h | h) | h)
      · exact .inl h
      · exact .inr (.inl h)
      exact .inr (.inr h)
    rintro (h | h | h)
    · exact .inl (.inl h)
    · exact .inl (.inr h)
    exact .inr h
theorem sortS_mem {x : ByteArray} {l : List ByteArray} : x ∈ sortS l ↔ x ∈ l := by
  unfold sortS
  rw [foldl_mem]
  simp

/-- Strictly ascending. -/
def AscS (l : List ByteArray) : Prop := l.Pairwise fun x y => lessS x y = true
theorem less_irr (x : ByteArray) : lessS x x = false := bytes_irr _
theorem less_asym {x y : ByteArray} (h : lessS x y = true) : lessS y x = false := bytes_asym _ _ h
theorem less_total {x y : ByteArray} (h1 : lessS x y = false) (h2 : lessS y x = false) : x = y := toList_inj (bytes_total _ _ h1 h2)
theorem asc_at {l : List ByteArray} (h : AscS l) {i j : Nat} (hij : i < j) (hj : j < l.length) : lessS (l.getD i default) (l.getD j default) = true := by
  have := List.pairwise_iff_getElem.1 h i j (by omega) hj hij
  rwa [List.getD_eq_getElem?_getD, List.getD_eq_getElem?_getD, List.getElem?_eq_getElem (by omega), List.getElem?_eq_getElem hj]
theorem put_asc {o : List ByteArray} {s : ByteArray} (h : AscS o) : AscS (putS o s) := by
  unfold putS
  split
  · rename_i hc
    unfold AscS
    rw [List.append_assoc, List.pairwise_append]
    have hin1 : ∀ x ∈ o.take (lowN s o), lessS x s = true := fun x hx => by
      obtain ⟨j, hj, e⟩ := List.getElem_of_mem hx
      rw [List.length_take] at hj
      have := low_lt s o j (by omega)
      rw [List.getD_eq_getElem?_getD, List.getElem?_eq_getElem (by omega)] at this
      rw [List.getElem_take] at e
      rw [← e]; exact this
    have hin2 : ∀ x ∈ o.drop (lowN s o), lessS s x = true := fun x hx => by
      obtain ⟨j, hj, e⟩ := List.getElem_of_mem hx
      rw [List.length_drop] at hj
      rw [List.getElem_drop] at e
      have hl : lowN s o < o.length := by omega
      have h0 : lessS s (o.getD (lowN s o) default) = true := by
        cases hs : lessS s (o.getD (lowN s o) default) with
        | true => rfl
        | false =>
          have := less_total hs (low_at s o hl)
          rcases hc with hc | hc
          · omega
          exact absurd this.symm hc
      rcases Nat.eq_zero_or_pos j with rfl | hj0
      · rw [← e]
        rw [List.getD_eq_getElem?_getD, List.getElem?_eq_getElem hl] at h0
        exact h0
      have h3 := asc_at h (i := lowN s o) (j := lowN s o + j) (by omega) (by omega)
      have h4 := less_trans h0 h3
      rw [List.getD_eq_getElem?_getD, List.getElem?_eq_getElem (by omega)] at h4
      rw [← e]; exact h4
    refine ⟨h.sublist (List.take_sublist _ _), ?_, fun x hx y hy => ?_⟩
    · rw [List.singleton_append, List.pairwise_cons]
      exact ⟨hin2, h.sublist (List.drop_sublist _ _)⟩
    rw [List.singleton_append, List.mem_cons] at hy
    rcases hy with rfl | hy
    · exact hin1 x hx
    exact less_trans (hin1 x hx) (hin2 y hy)
  exact h
theorem foldl_asc : ∀ {l o : List ByteArray}, AscS o → AscS (l.foldl putS o)
  | [], _, h => h
  | s :: l, o, h => foldl_asc (l := l) (put_asc h)
theorem sortS_asc (l : List ByteArray) : AscS (sortS l) := foldl_asc List.Pairwise.nil
/-- Two strictly ascending lists with the same members are one. -/
theorem asc_ext : ∀ {l m : List ByteArray}, AscS l → AscS m → (∀ x, x ∈ l ↔ x ∈ m) → l = m
  | [], [], _, _, _ => rfl
  | [], y :: m, _, _, h => by have := (h y).2 List.mem_cons_self; simp at this
  | x :: l, [], _, _, h => by have := (h x).1 List.mem_cons_self; simp at this
  | x :: l, y :: m, hl, hm, h => by
    have hl' := List.pairwise_cons.1 hl
    have hm' := List.pairwise_cons.1 hm
    have hxy : x = y := by
      rcases List.mem_cons.1 ((h x).1 List.mem_cons_self) with e | e
      · exact e
      rcases List.mem_cons.1 ((h y).2 List.mem_cons_self) with e' | e'
      · exact e'.symm
      have a := hm'.1 x e
      have b := hl'.1 y e'
      rw [less_asym a] at b
      cases b
    subst hxy
    congr 1
    refine asc_ext hl'.2 hm'.2 fun z => ⟨fun hz => ?_, fun hz => ?_⟩
    · rcases List.mem_cons.1 ((h z).1 (List.mem_cons_of_mem _ hz)) with e | e
      · subst e
        have := hl'.1 z hz
        rw [less_irr] at this
        cases this
      exact e
    rcases List.mem_cons.1 ((h z).2 (List.mem_cons_of_mem _ hz)) with e | e
    · subst e
      have := hm'.1 z hz
      rw [less_irr] at this
      cases this
    exact e
theorem sortS_same {l : List ByteArray} (h : AscS l) : sortS l = l := asc_ext (sortS_asc l) h fun _ => sortS_mem

section
variable {w w' : World} {B B1 B2 : Nat} {e e1 e2 : TypeId} {s s1 s2 : Nat} {v v1 v2 : Value} {n n1 n2 : Nat} {xs xs1 xs2 : List Value}
theorem ownsK {S : Nat → Prop} (h : w.ownsRow B e s v n xs) (hk : Kept S w w') (hd : ∀ g, v.ownBlock = some g → ¬ S g) : w'.ownsRow B e s v n xs := by
  refine ⟨h.1, ?_⟩
  rcases h.2 with hn | ⟨g, cap, cur, rfl, hbg, hg, rest⟩
  · exact .inl hn
  have := (Array.getElem?_eq_some_iff.1 hg).1
  exact .inr ⟨g, cap, cur, rfl, hbg, by rw [hk.block g this (hd g rfl)]; exact hg, rest⟩
theorem ownsA (h1 : w.ownsRow B1 e1 s1 v1 n1 xs1) (h2 : w.ownsRow B2 e2 s2 v2 n2 xs2) (he : e1 ≠ e2) (g : Nat) (hg : v1.ownBlock = some g) : v2.ownBlock ≠ some g := by
  intro hg2
  rcases h1.2 with ⟨rfl, _⟩ | ⟨g1, _, _, rfl, _, a1, _⟩
  · simp [Value.ownBlock] at hg
  rcases h2.2 with ⟨rfl, _⟩ | ⟨g2, _, _, rfl, _, a2, _⟩
  · simp [Value.ownBlock] at hg2
  simp only [Value.ownBlock, Option.some.injEq] at hg hg2
  subst hg
  subst hg2
  rw [a1] at a2
  injection a2 with a2
  injection a2 with _ a2 _
  exact he a2
theorem ownsT {b : Nat} {cs : Array Value} {t : TypeId} (h : w.ownsRow B e s v n xs) (hb : w.heap[b]? = some (.cells cs t)) (hne : e ≠ t) : v.ownBlock ≠ some b := by
  intro hv
  rcases h.2 with ⟨rfl, _⟩ | ⟨g, _, _, rfl, _, a, _⟩
  · simp [Value.ownBlock] at hv
  simp only [Value.ownBlock, Option.some.injEq] at hv
  subst hv
  rw [hb] at a
  injection a with a
  injection a with _ a _
  exact hne a.symm
/-- A slice of a row, from its beginning on. -/
theorem ownsTake {A : Option Addr} {c m : Nat} (h : w.ownsRow B e s (.slice A n c) n xs) (hm : m ≤ n) : w.ownsRow B e s (.slice A m c) m (xs.take (m * s)) := by
  obtain ⟨h1, h2⟩ := h
  have hms : m * s ≤ n * s := Nat.mul_le_mul_right _ hm
  rcases h2 with ⟨e2, hn⟩ | ⟨g, cap, cur, e2, hb, hg, hc, hcap, hl, ht⟩
  · cases hn
    cases e2
    obtain rfl : m = 0 := by omega
    refine ⟨by simp, .inl ⟨rfl, rfl⟩⟩
  cases e2
  refine ⟨by rw [List.length_take, h1]; omega, .inr ⟨g, c, cur, rfl, hb, hg, by omega, hcap, hl, ?_⟩⟩
  rw [← ht, List.take_take, Nat.min_eq_left hms]
/-- A row laid as it is. -/
theorem ownsNew (w : World) (cs : List Value) (e : TypeId) (s n : Nat) (hl : cs.length = n * s) (hn : n ≤ maxLen) : (w.alloc (.cells cs.toArray e)).ownsRow w.heap.size e s (.slice (some ⟨w.heap.size, 0, none⟩) n n) n cs :=
  ⟨hl, .inr ⟨w.heap.size, n, cs.toArray, rfl, Nat.le_refl _, heap_alloc_new _ _, Nat.le_refl _, hn, by simpa using hl, by rw [← hl]; simp⟩⟩

end

end Go.Proofs.YtijkdpdmclkmlaaGreatDoor
