/- The plain law of composition: what a composition is, when it is valid, that it is associative, and identities. The plain law of composition, second part: what the program makes, and what the reference makes, is the composition. -/
import Derived.Test.YtijkdpdmclkmlaaGreatDoorProg
import Derived.Test.YtijkdpdmclkmlaaGreatDoorJ7
set_option linter.unusedSimpArgs false
set_option linter.unusedVariables false
set_option maxRecDepth 100000
set_option maxHeartbeats 16000000
namespace Go.Proofs.YtijkdpdmclkmlaaGreatDoor
open Go.RowKit
theorem getD_some {α : Type} {l : List α} {i : Nat} {x d : α} (h : l[i]? = some x) : l.getD i d = x := by rw [List.getD_eq_getElem?_getD, h]; rfl
theorem getD_lt {α : Type} {l : List α} {i : Nat} {d : α} (h : i < l.length) : l[i]? = some (l.getD i d) := by rw [List.getD_eq_getElem?_getD, List.getElem?_eq_getElem h]; rfl

def LinkP (g : Gr) (l : Int) : Prop := 0 ≤ l ∧ l < g.edges + g.outer.length
def UnderP (sig : List Ct) (g : Gr) (p below : Int) : Prop := (p < 0 → -g.roots ≤ p) ∧ (0 ≤ p → p < below ∧ kindA sig (nodA g p.toNat).1 ≠ 2)
/-- What a valid bigraph is, told by its places. -/
structure GoodP (sig : List Ct) (g : Gr) : Prop where
  sg : sigB sig = true
  r : 0 ≤ g.roots ∧ g.roots ≤ 4
  n8 : g.nodes.length ≤ 8
  s4 : g.sites.length ≤ 4
  e : 0 ≤ g.edges ∧ g.edges ≤ 8
  on : namesB g.outer = true
  inn : namesB (innerN g) = true
  nod : ∀ (i : Nat) (x : Nod), g.nodes[i]? = some x → (0 ≤ x.1 ∧ x.1 < sig.length) ∧ UnderP sig g x.2.1 i ∧ (x.2.2.length : Int) = portsA sig x.1 ∧ ∀ l ∈ x.2.2, LinkP g l
  sit : ∀ p ∈ g.sites, UnderP sig g p g.nodes.length
  inr : ∀ x ∈ g.inner, LinkP g x.2
theorem link_iff (g : Gr) (l : Int) : linkB g l = true ↔ LinkP g l := by
  unfold linkB inB LinkP
  simp
  omega
theorem under_iff (sig : List Ct) (g : Gr) (p below : Int) : underB sig g p below = true ↔ UnderP sig g p below := by
  unfold underB UnderP
  by_cases h : p < 0
  · simp [h]; omega
  simp [h]; omega
theorem mem_getD {α : Type} {l : List α} {d : α} {P : α → Prop} : (∀ x ∈ l, P x) ↔ ∀ i, i < l.length → P (l.getD i d) := by
  constructor
  · intro h i hi
    exact h _ (List.mem_of_getElem? (getD_lt hi))
  intro h x hx
  obtain ⟨i, hi, e⟩ := List.getElem_of_mem hx
  have := h i hi
  rw [getD_some (x := x) (by rw [List.getElem?_eq_getElem hi, e])] at this
  exact this
theorem allR_iff {n : Nat} {p : Nat → Bool} : allR n p = true ↔ ∀ j, j < n → p j = true := ⟨fun h j hj => allR_get h hj, allR_true⟩
theorem nod_iff (sig : List Ct) (g : Gr) (i : Nat) : nodB sig g i = true ↔ (0 ≤ (nodA g i).1 ∧ (nodA g i).1 < sig.length) ∧ UnderP sig g (nodA g i).2.1 i ∧ ((nodA g i).2.2.length : Int) = portsA sig (nodA g i).1 ∧ ∀ l ∈ (nodA g i).2.2, LinkP g l := by
  unfold nodB
  rw [Bool.and_eq_true, Bool.and_eq_true, Bool.and_eq_true, under_iff, allR_iff, mem_getD (d := 0)]
  simp only [link_iff, beq_iff_eq]
  have h : inB (nodA g i).1 0 ((sig.length : Int) - 1) = true ↔ (0 ≤ (nodA g i).1 ∧ (nodA g i).1 < (sig.length : Int)) := by
    unfold inB; simp; omega
  rw [h]
  constructor
  · rintro ⟨⟨⟨a, b⟩, c⟩, d⟩; exact ⟨a, b, c, d⟩
  rintro ⟨a, b, c, d⟩; exact ⟨⟨⟨a, b⟩, c⟩, d⟩
theorem good_iff (sig : List Ct) (g : Gr) : goodG sig g = true ↔ GoodP sig g := by
  rw [goodG_of]
  simp only [Bool.and_eq_true]
  constructor
  · rintro ⟨⟨⟨⟨⟨h1, h2⟩, h3⟩, h4⟩, h5⟩, h6⟩
    unfold headB at h1
    simp only [Bool.and_eq_true, decide_eq_true_eq] at h1
    obtain ⟨⟨⟨⟨a1, a2⟩, a3⟩, a4⟩, a5⟩ := h1
    refine ⟨a1, inB_true a2, a3, a4, inB_true a5, h2, h3, fun i x hx => ?_, ?_, ?_⟩
    · have hi := (List.getElem?_eq_some_iff.1 hx).1
      have h := (nod_iff sig g i).1 (allR_get h4 hi)
      have e : nodA g i = x := getD_some hx
      rw [e] at h
      exact h
    · rw [mem_getD (d := 0)]
      exact fun i hi => (under_iff _ _ _ _).1 (allR_get h5 hi)
    rw [mem_getD (d := wi0)]
    exact fun i hi => (link_iff _ _).1 (allR_get h6 hi)
  intro h
  refine ⟨⟨⟨⟨⟨?_, h.on⟩, h.inn⟩, ?_⟩, ?_⟩, ?_⟩
  · unfold headB inB
    simp only [Bool.and_eq_true, decide_eq_true_eq]
    exact ⟨⟨⟨⟨h.sg, h.r⟩, h.n8⟩, h.s4⟩, h.e⟩
  · exact allR_true fun i hi => (nod_iff sig g i).2 (h.nod i _ (getD_lt hi))
  · exact allR_true fun i hi => (under_iff _ _ _ _).2 (mem_getD.1 h.sit i hi)
  exact allR_true fun i hi => (link_iff _ _).2 (mem_getD.1 h.inr i hi)

/-- What a link of a becomes, and one of b, in a after b. -/
def upL (a b : Gr) (l : Int) : Int := if l < a.edges then l else l + b.edges
def dnL (a b : Gr) (l : Int) : Int := if l < b.edges then l + a.edges else upL a b (wiA a (l - b.edges).toNat).2
def dnP (a : Gr) (p : Int) : Int := if p < 0 then a.sites.getD (-1 - p).toNat 0 else p + a.nodes.length
def compG (a b : Gr) : Gr :=
  ⟨a.roots, a.nodes.map (fun x => (x.1, x.2.1, x.2.2.map (upL a b))) ++ b.nodes.map (fun x => (x.1, dnP a x.2.1, x.2.2.map (dnL a b))), b.sites.map (dnP a), a.edges + b.edges, a.outer, b.inner.map (fun w => (w.1, dnL a b w.2))⟩
def FitsP (a b : Gr) : Prop := (a.sites.length : Int) = b.roots ∧ innerN a = b.outer

section
variable {sig : List Ct} {a b c : Gr}
theorem fits_len (h : FitsP a b) : a.inner.length = b.outer.length := by rw [← h.2]; simp [innerN]
theorem wi_link (ha : GoodP sig a) {k : Nat} (hk : k < a.inner.length) : LinkP a (wiA a k).2 := ha.inr _ (List.mem_of_getElem? (getD_lt hk))
theorem len_comp : (compG a b).nodes.length = a.nodes.length + b.nodes.length := by unfold compG; simp
/-- The identity of some roots and names. -/
def idG (n : Nat) (names : List ByteArray) : Gr := ⟨n, [], (List.range n).map fun i : Nat => -1 - (i : Int), 0, names, (List.range names.length).map fun i : Nat => (names.getD i default, (i : Int))⟩
theorem idG_inner (n : Nat) (names : List ByteArray) : innerN (idG n names) = names := by
  unfold innerN idG
  simp only [List.map_map]
  apply List.ext_getElem
  · simp
  intro i h1 h2
  simp only [List.getElem_map, List.getElem_range, Function.comp]
  exact getD_some (List.getElem?_eq_getElem h2)
theorem gr_ext : ∀ (x y : Gr), x.roots = y.roots → x.nodes = y.nodes → x.sites = y.sites → x.edges = y.edges → x.outer = y.outer → x.inner = y.inner → x = y := by
  rintro ⟨⟩ ⟨⟩ h1 h2 h3 h4 h5 h6
  simp only at h1 h2 h3 h4 h5 h6
  subst h1; subst h2; subst h3; subst h4; subst h5; subst h6
  rfl
theorem map_same {α : Type} {f : α → α} {l : List α} (h : ∀ x ∈ l, f x = x) : l.map f = l := by
  have := List.map_congr_left h
  rw [this]; simp
end

/-- What a link is: an edge, or an outer name. -/
abbrev En := Int × ByteArray
def bE : ByteArray := ⟨#[]⟩
def endG (g : Gr) (l : Int) : En := if l < g.edges then (l, bE) else (0, g.outer.getD (l - g.edges).toNat default)
/-- Where a name stands in a list, or -1. -/
def atS : List ByteArray → ByteArray → Int
  | [], _ => -1
  | x :: l, s => if x = s then 0 else (if atS l s = -1 then -1 else atS l s + 1)
def toLink (edges : Int) (outs : List ByteArray) (e : En) : Int := if e.2 = bE then e.1 else edges + atS outs e.2
def relinkG (g : Gr) (edges : Int) (outs : List ByteArray) (turn : En → En) : Gr :=
  { g with edges := edges, outer := outs, nodes := g.nodes.map fun x => (x.1, x.2.1, x.2.2.map fun l => toLink edges outs (turn (endG g l))), inner := g.inner.map fun w => (w.1, toLink edges outs (turn (endG g w.2))) }
def movedG (a : Gr) (place : Int → Int) (p : Int) : Int := if 0 ≤ p then p + a.nodes.length else place p
def rightT (a : Gr) (name : ByteArray → En) (e : En) : En := if e.2 = bE then (e.1 + a.edges, bE) else name e.2
def joinedG (a b : Gr) (roots : Int) (sites : List Int) (outs : List ByteArray) (place : Int → Int) (name : ByteArray → En) : Gr :=
  ⟨roots, (relinkG a (a.edges + b.edges) outs id).nodes ++ (relinkG b (a.edges + b.edges) outs (rightT a name)).nodes.map (fun x => (x.1, movedG a place x.2.1, x.2.2)), sites ++ b.sites.map (movedG a place), a.edges + b.edges, outs, (relinkG b (a.edges + b.edges) outs (rightT a name)).inner⟩
def underA (a : Gr) (p : Int) : Int := a.sites.getD (-1 - p).toNat 0
def nameA (a : Gr) (s : ByteArray) : En := endG a (wiA a (atS (innerN a) s).toNat).2
def composedG (a b : Gr) (outs : List ByteArray) : Gr := joinedG a b a.roots [] outs (underA a) (nameA a)

structure NamesP (l : List ByteArray) : Prop where
  nd : l.Nodup
  ne : ∀ s ∈ l, s ≠ bE
theorem atS_mem : ∀ {l : List ByteArray} {s : ByteArray}, s ∈ l → 0 ≤ atS l s
  | [], _, h => by simp at h
  | x :: l, s, h => by
    unfold atS
    split
    · omega
    rename_i hne
    have h2 : s ∈ l := by
      rcases List.mem_cons.1 h with h | h
      · exact absurd h.symm hne
      exact h
    have := atS_mem h2
    split <;> omega
theorem atS_get : ∀ {l : List ByteArray} {k : Nat}, l.Nodup → k < l.length → atS l (l.getD k default) = (k : Int)
  | [], _, _, h => by simp at h
  | x :: l, 0, _, _ => by unfold atS; simp
  | x :: l, k + 1, hn, h => by
    have hk : k < l.length := by simpa using h
    have ih := atS_get (k := k) (List.nodup_cons.1 hn).2 hk
    have hm : l.getD k default ∈ l := List.mem_of_getElem? (getD_lt hk)
    have hne : x ≠ l.getD k default := fun e => (List.nodup_cons.1 hn).1 (e ▸ hm)
    have e1 : (x :: l).getD (k + 1) default = l.getD k default := by simp [List.getD]
    rw [e1]
    unfold atS
    rw [if_neg hne, ih, if_neg (by omega)]
    omega

section
variable {sig : List Ct} {a b : Gr}
theorem end_left (ha : GoodP sig a) (hb : GoodP sig b) (hn : NamesP a.outer) {l : Int} (hl : LinkP a l) : toLink (a.edges + b.edges) a.outer (endG a l) = upL a b l := by
  unfold endG toLink upL
  split
  · simp
  rename_i h
  unfold LinkP at hl
  have hk : (l - a.edges).toNat < a.outer.length := by omega
  have hm := hn.ne _ (List.mem_of_getElem? (getD_lt (d := default) hk))
  simp only
  rw [if_neg hm, atS_get hn.nd hk]
  omega
theorem end_right (ha : GoodP sig a) (hb : GoodP sig b) (hf : FitsP a b) (hn : NamesP a.outer) (hi : (innerN a).Nodup) (hm : NamesP b.outer) {l : Int} (hl : LinkP b l) : toLink (a.edges + b.edges) a.outer (rightT a (nameA a) (endG b l)) = dnL a b l := by
  unfold dnL
  by_cases h : l < b.edges
  · rw [if_pos h]
    unfold endG rightT toLink
    rw [if_pos h]
    simp
  rw [if_neg h]
  unfold LinkP at hl
  have hk : (l - b.edges).toNat < b.outer.length := by omega
  have hne := hm.ne _ (List.mem_of_getElem? (getD_lt (d := default) hk))
  have e1 : endG b l = (0, b.outer.getD (l - b.edges).toNat default) := by unfold endG; rw [if_neg h]
  have e2 : rightT a (nameA a) (endG b l) = nameA a (b.outer.getD (l - b.edges).toNat default) := by
    rw [e1]; unfold rightT; rw [if_neg hne]
  have e3 : atS (innerN a) (b.outer.getD (l - b.edges).toNat default) = ((l - b.edges).toNat : Int) := by
    rw [← hf.2]
    exact atS_get hi (by rw [hf.2]; exact hk)
  rw [e2]
  unfold nameA
  rw [e3]
  have h3 := fits_len hf
  rw [Int.toNat_natCast]
  exact end_left ha hb hn (wi_link ha (by omega))
theorem moved_place (p : Int) : movedG a (underA a) p = dnP a p := by
  unfold movedG dnP underA
  by_cases h : p < 0
  · rw [if_neg (by omega), if_pos h]
  rw [if_pos (by omega), if_neg h]
/-- What the program makes is the composition. -/
theorem composed_eq (ha : GoodP sig a) (hb : GoodP sig b) (hf : FitsP a b) (hn : NamesP a.outer) (hi : (innerN a).Nodup) (hm : NamesP b.outer) : composedG a b a.outer = compG a b := by
  refine gr_ext _ _ rfl ?_ ?_ rfl rfl ?_
  · show (a.nodes.map _) ++ ((b.nodes.map _).map _) = a.nodes.map _ ++ b.nodes.map _
    rw [List.map_map]
    congr 1
    · refine List.map_congr_left fun x hx => ?_
      obtain ⟨i, hi', e⟩ := List.getElem_of_mem hx
      obtain ⟨_, _, _, b4⟩ := ha.nod i x (by rw [List.getElem?_eq_getElem hi', e])
      exact Prod.ext rfl (Prod.ext rfl (List.map_congr_left fun l hl => end_left ha hb hn (b4 l hl)))
    refine List.map_congr_left fun x hx => ?_
    obtain ⟨i, hi', e⟩ := List.getElem_of_mem hx
    obtain ⟨_, _, _, b4⟩ := hb.nod i x (by rw [List.getElem?_eq_getElem hi', e])
    exact Prod.ext rfl (Prod.ext (moved_place _) (List.map_congr_left fun l hl => end_right ha hb hf hn hi hm (b4 l hl)))
  · show [] ++ b.sites.map _ = b.sites.map _
    rw [List.nil_append]
    exact List.map_congr_left fun p _ => moved_place p
  show b.inner.map _ = b.inner.map _
  refine List.map_congr_left fun x hx => ?_
  rw [end_right ha hb hf hn hi hm (hb.inr x hx)]
end
/-- The reference's composition. -/
def edgesL (from_ n : Int) : List Int := (List.range n.toNat).map fun i : Nat => from_ + (i : Int)
def rootsL (from_ n : Int) : List Int := (List.range n.toNat).map fun r : Nat => -1 - from_ - (r : Int)
def atI (l : List Int) (k : Int) : Int := l.getD k.toNat 0
def parentS (by_ : Int) (ps : List Int) (p : Int) : Int := if p < 0 then atI ps (-1 - p) else p + by_
def nodesS (b : Gr) (by_ : Int) (ps links : List Int) : List Nod := b.nodes.map fun x => (x.1, parentS by_ ps x.2.1, x.2.2.map (atI links))
def wiresS (b : Gr) (links : List Int) : List Wi := b.inner.map fun w => (w.1, atI links w.2)
def namedS (names : List ByteArray) (edges : Int) (outer : List ByteArray) : List Int := names.map fun s => edges + atS outer s
def holesS (a : Gr) : List Int := a.sites.map (parentS 0 (rootsL 0 a.roots))
def underG (a b : Gr) (outer : List ByteArray) (above below : List Int) : Gr :=
  ⟨a.roots, nodesS a 0 (rootsL 0 a.roots) (edgesL 0 a.edges ++ above) ++ nodesS b a.nodes.length (holesS a) (edgesL a.edges b.edges ++ below), b.sites.map (parentS a.nodes.length (holesS a)), a.edges + b.edges, outer, wiresS b (edgesL a.edges b.edges ++ below)⟩
def aboveS (a b : Gr) : List Int := namedS a.outer (a.edges + b.edges) a.outer
def afterG (a b : Gr) : Gr := underG a b a.outer (aboveS a b) (a.inner.map fun w => atI (edgesL 0 a.edges ++ aboveS a b) w.2)

theorem edges_len (f n : Int) : (edgesL f n).length = n.toNat := by simp [edgesL]
theorem edges_at {f n l : Int} {r : List Int} (h0 : 0 ≤ l) (h1 : l < n) : atI (edgesL f n ++ r) l = f + l := by
  unfold atI
  have e : (edgesL f n ++ r)[l.toNat]? = some (f + (l.toNat : Int)) := by
    rw [List.getElem?_append_left (by rw [edges_len]; omega)]
    unfold edgesL
    rw [List.getElem?_map, List.getElem?_range (by omega)]
    rfl
  rw [getD_some e]
  omega
theorem edges_behind {f n l : Int} {r : List Int} (hn : 0 ≤ n) (h1 : n ≤ l) : atI (edgesL f n ++ r) l = r.getD (l - n).toNat 0 := by
  unfold atI
  rw [List.getD_eq_getElem?_getD, List.getD_eq_getElem?_getD, List.getElem?_append_right (by rw [edges_len]; omega), edges_len, show l.toNat - n.toNat = (l - n).toNat by omega]
section
variable {sig : List Ct} {a b : Gr}
theorem left_up (ha : GoodP sig a) (hn : NamesP a.outer) {l : Int} (hl : LinkP a l) : atI (edgesL 0 a.edges ++ aboveS a b) l = upL a b l := by
  have h1 := ha.e
  unfold LinkP at hl
  unfold upL
  split
  · rename_i h
    rw [edges_at hl.1 h]; omega
  have hk : (l - a.edges).toNat < a.outer.length := by omega
  rw [edges_behind h1.1 (by omega)]
  have e : (aboveS a b)[(l - a.edges).toNat]? = some (a.edges + b.edges + ((l - a.edges).toNat : Int)) := by
    unfold aboveS namedS
    rw [List.getElem?_map, getD_lt (d := default) hk, Option.map_some, atS_get hn.nd hk]
  rw [getD_some e]
  omega
theorem right_dn (ha : GoodP sig a) (hb : GoodP sig b) (hf : FitsP a b) (hn : NamesP a.outer) {l : Int} (hl : LinkP b l) : atI (edgesL a.edges b.edges ++ a.inner.map fun w => atI (edgesL 0 a.edges ++ aboveS a b) w.2) l = dnL a b l := by
  have h2 := hb.e
  have h3 := fits_len hf
  unfold LinkP at hl
  unfold dnL
  split
  · rename_i h
    rw [edges_at hl.1 h]; omega
  have hk : (l - b.edges).toNat < a.inner.length := by omega
  rw [edges_behind h2.1 (by omega), getD_some (x := atI (edgesL 0 a.edges ++ aboveS a b) (wiA a (l - b.edges).toNat).2) (by rw [List.getElem?_map, getD_lt (d := wi0) hk]; rfl)]
  exact left_up ha hn (wi_link ha hk)
theorem root_same (ha : GoodP sig a) {p : Int} (h : p < 0 → -a.roots ≤ p) : parentS 0 (rootsL 0 a.roots) p = p := by
  unfold parentS
  split
  · rename_i hp
    have h1 := h hp
    unfold atI
    rw [getD_some (x := -1 - 0 - ((-1 - p).toNat : Int)) (by unfold rootsL; rw [List.getElem?_map, List.getElem?_range (by omega)]; rfl)]
    omega
  omega
theorem holes_same (ha : GoodP sig a) : holesS a = a.sites := map_same fun p hp => root_same ha (ha.sit p hp).1
theorem hole_dn (ha : GoodP sig a) (p : Int) : parentS a.nodes.length (holesS a) p = dnP a p := by
  rw [holes_same ha]
  rfl
/-- What the reference makes is the composition. -/
theorem after_eq (ha : GoodP sig a) (hb : GoodP sig b) (hf : FitsP a b) (hn : NamesP a.outer) : afterG a b = compG a b := by
  refine gr_ext _ _ rfl ?_ ?_ rfl rfl ?_
  · show (a.nodes.map _) ++ (b.nodes.map _) = a.nodes.map _ ++ b.nodes.map _
    congr 1
    · refine List.map_congr_left fun x hx => ?_
      obtain ⟨i, hi', e⟩ := List.getElem_of_mem hx
      obtain ⟨_, b2, _, b4⟩ := ha.nod i x (by rw [List.getElem?_eq_getElem hi', e])
      exact Prod.ext rfl (Prod.ext (root_same ha b2.1) (List.map_congr_left fun l hl => left_up ha hn (b4 l hl)))
    refine List.map_congr_left fun x hx => ?_
    obtain ⟨i, hi', e⟩ := List.getElem_of_mem hx
    obtain ⟨_, _, _, b4⟩ := hb.nod i x (by rw [List.getElem?_eq_getElem hi', e])
    exact Prod.ext rfl (Prod.ext (hole_dn ha _) (List.map_congr_left fun l hl => right_dn ha hb hf hn (b4 l hl)))
  · show b.sites.map _ = b.sites.map _
    exact List.map_congr_left fun p _ => hole_dn ha p
  show b.inner.map _ = b.inner.map _
  refine List.map_congr_left fun x hx => ?_
  rw [right_dn ha hb hf hn (hb.inr x hx)]
end

end Go.Proofs.YtijkdpdmclkmlaaGreatDoor
