/- The reference: a bigraph given if it is valid: walked. Plain: nesting is a composition. Plain: what both packages nest, what a nesting is composed of, and that all of it is valid. Plain: the parallel product, whether two bigraphs can be nested, and what a nesting is composed of. -/
import Derived.Test.YtijkdpdmclkmlaaGreatDoorProg
import Derived.Test.YtijkdpdmclkmlaaGreatDoorJ39
import Derived.BigQuiet
import Derived.Test.YtijkdpdmclkmlaaGreatDoorJ8
import Derived.Test.YtijkdpdmclkmlaaGreatDoorJ16
import Derived.Test.YtijkdpdmclkmlaaGreatDoorJ9
import Derived.Test.YtijkdpdmclkmlaaGreatDoorJ30
import Derived.Test.YtijkdpdmclkmlaaGreatDoorJ21
set_option linter.unusedSimpArgs false
set_option linter.unusedVariables false
set_option maxRecDepth 100000
set_option maxHeartbeats 16000000
namespace Go.Proofs.YtijkdpdmclkmlaaGreatDoor
open Go.RowKit
theorem set6 {W : World} {R : Nat} {a0 a1 a2 a3 a4 a5 b0 b1 b2 b3 b4 b5 : Value} {t : TypeId} (h : W.heap[R]? = some (.cells #[a0, a1, a2, a3, a4, a5] t)) :
    ((((((W.setCell ⟨R, 0, none⟩ b0).setCell ⟨R, 1, none⟩ b1).setCell ⟨R, 2, none⟩ b2).setCell ⟨R, 3, none⟩ b3).setCell ⟨R, 4, none⟩ b4).setCell ⟨R, 5, none⟩ b5).heap[R]? = some (.cells #[b0, b1, b2, b3, b4, b5] t) ∧
    Kept (fun q => q = R) W ((((((W.setCell ⟨R, 0, none⟩ b0).setCell ⟨R, 1, none⟩ b1).setCell ⟨R, 2, none⟩ b2).setCell ⟨R, 3, none⟩ b3).setCell ⟨R, 4, none⟩ b4).setCell ⟨R, 5, none⟩ b5) := by
  have e0 := heap_setCell_same W R 0 _ _ b0 h
  have e1 := heap_setCell_same _ R 1 _ _ b1 e0
  have e2 := heap_setCell_same _ R 2 _ _ b2 e1
  have e3 := heap_setCell_same _ R 3 _ _ b3 e2
  have e4 := heap_setCell_same _ R 4 _ _ b4 e3
  have e5 := heap_setCell_same _ R 5 _ _ b5 e4
  exact ⟨e5, (((((((Kept.refl (fun q => q = R) W).setCell (p := ⟨R, 0, none⟩) rfl b0).setCell (p := ⟨R, 1, none⟩) rfl b1).setCell (p := ⟨R, 2, none⟩) rfl b2).setCell (p := ⟨R, 3, none⟩) rfl b3).setCell (p := ⟨R, 4, none⟩) rfl b4).setCell (p := ⟨R, 5, none⟩) rfl b5)⟩
theorem below_kept1 {w w0 W W' : World} {R : Nat} (h0 : Below w.heap.size w w0) (h1 : Below w0.heap.size w0 W) (hk : Kept (fun q => q = R) W W') (hR : w.heap.size ≤ R) : Below w.heap.size w W' :=
  have h := h0.trans (h1.mono h0.size)
  h.trans (hk.below (fun q hq => by omega) h.size)
theorem l2Give_any (sig : List Ct) (g : Gr) (nv sv ov iv gv : Value) (w : World) (hs : SmallG g) (hz : SmallS sig) (hS : RSl RCt 3 w gv sig) (hG : RGr w nv sv ov iv g) :
    Calls Tryz.prog 153 #[gv, .agg #[.int .i64 g.roots, nv, sv, .int .i64 g.edges, ov, iv]] w fun e w' => e = .returned (.tuple #[.agg (if goodG sig g = true then #[.int .i64 g.roots, nv, sv, .int .i64 g.edges, ov, iv] else zeroX.cells), .bool (goodG sig g)]) ∧ Below w.heap.size w w' := by
  obtain ⟨AN, cN, AS, cS, AO, cO, AI, cI, rfl, rfl, rfl, rfl⟩ := hG.form
  have hS2 := hS
  obtain ⟨AG, cG, rfl, _⟩ := hS2.form
  obtain ⟨w0, hw0, hb0, hs0, bx0, hR0⟩ := laid2 w (.cells #[.int .i64 g.roots, .slice AN g.nodes.length cN, .slice AS g.sites.length cS, .int .i64 g.edges, .slice AO g.outer.length cO, .slice AI g.inner.length cI] 31) (.cells #[.int .i64 0, .slice none 0 0, .slice none 0 0, .int .i64 0, .slice none 0 0, .slice none 0 0] 31)
  have HX := Lib.hid (keepB bx0)
  have HRR := Lib.hid (keepB hR0)
  have HB0 := Lib.hid hb0
  have HW0 := Lib.hid hw0
  have HP0 := Lib.hid (l2Good_any sig g _ _ _ _ _ w0 hs hz (hS.below RCt_keep hb0) (hG.below hb0))
  obtain ⟨x0, x1, x2, x3, x4, x5⟩ := row6 bx0
  clear hs hG hb0 bx0 hR0 hw0 hS hS2 hz hs0
  cases hp : goodG sig g
  · rw [hp] at HP0
    clear hp
    go_enter Tryz.func153, Tryz.ntmps153
    go_wp2_with (rw [← HW0.out])
    (with_reducible refine HP0.out.mono ?_)
    rintro e w1 ⟨rfl, hb⟩
    have HB1 := Lib.hid hb
    clear x0 x1 x2 x3 x4 x5 HP0 hb
    obtain ⟨z0, z1, z2, z3, z4, z5, f0, f1, f2, f3, f4, f5⟩ := row6f (HRR.out w1 HB1.out)
    go_wp2_with fail
    have hf := set6 (b0 := .int .i64 0) (b1 := nilV) (b2 := nilV) (b3 := .int .i64 0) (b4 := nilV) (b5 := nilV) (HRR.out w1 HB1.out)
    (try simp only [Exit.inBlock, Exit.then])
    refine bodyPost_ret (rcell2 rfl _ _ (w.heap.size + 1) _ _ _ _ rfl hf.1 Tryz.underlying31 rfl (by kernel_rfl)) rfl ?_
    exact ⟨rfl, below_kept1 HB0.out HB1.out hf.2 (by omega)⟩
  rw [hp] at HP0
  clear hp
  go_enter Tryz.func153, Tryz.ntmps153
  go_wp2_with (rw [← HW0.out])
  (with_reducible refine HP0.out.mono ?_)
  rintro e w1 ⟨rfl, hb⟩
  have HB1 := Lib.hid hb
  clear x0 x1 x2 x3 x4 x5 HP0 hb
  obtain ⟨x0, x1, x2, x3, x4, x5⟩ := row6 (HX.out w1 HB1.out)
  obtain ⟨z0, z1, z2, z3, z4, z5, f0, f1, f2, f3, f4, f5⟩ := row6f (HRR.out w1 HB1.out)
  go_wp2_with fail
  have hf := set6 (b0 := .int .i64 g.roots) (b1 := .slice AN g.nodes.length cN) (b2 := .slice AS g.sites.length cS) (b3 := .int .i64 g.edges) (b4 := .slice AO g.outer.length cO) (b5 := .slice AI g.inner.length cI) (HRR.out w1 HB1.out)
  (try simp only [Exit.inBlock, Exit.then])
  refine bodyPost_ret (rcell2 rfl _ _ (w.heap.size + 1) _ _ _ _ rfl hf.1 Tryz.underlying31 rfl (by kernel_rfl)) rfl ?_
  exact ⟨rfl, below_kept1 HB0.out HB1.out hf.2 (by omega)⟩

/-- Nesting, and what it is composed of. -/
def asNameE (s : ByteArray) : En := (0, s)
def nestG (a b : Gr) (outs : List ByteArray) : Gr := joinedG a b a.roots [] outs (underA a) asNameE
def overG (a : Gr) (names outs : List ByteArray) : Gr := ⟨a.roots, (relinkG a a.edges outs id).nodes, a.sites, a.edges, outs, names.map fun s => (s, a.edges + atS outs s)⟩
section
variable {sig : List Ct} {a b : Gr} {outs : List ByteArray}
theorem over_up (ha : GoodP sig a) (hb : GoodP sig b) (hn : NamesP a.outer) (hs : ∀ s ∈ a.outer, s ∈ outs) {names : List ByteArray} {l : Int} (hl : LinkP a l) : upL (overG a names outs) b (toLink a.edges outs (endG a l)) = toLink (a.edges + b.edges) outs (endG a l) := by
  unfold endG toLink upL overG
  simp only
  by_cases h : l < a.edges
  · rw [if_pos h]
    simp [h]
  rw [if_neg h]
  unfold LinkP at hl
  have hk : (l - a.edges).toNat < a.outer.length := by omega
  have hm := List.mem_of_getElem? (getD_lt (d := default) hk)
  have h1 := hn.ne _ hm
  have h2 := atS_mem (hs _ hm)
  simp only
  rw [if_neg h1, if_neg h1, if_neg (by omega)]
  omega
theorem over_dn (ha : GoodP sig a) (hb : GoodP sig b) (hm : NamesP b.outer) (hs : ∀ s ∈ b.outer, s ∈ outs) {l : Int} (hl : LinkP b l) : dnL (overG a b.outer outs) b l = toLink (a.edges + b.edges) outs (rightT a asNameE (endG b l)) := by
  unfold dnL
  by_cases h : l < b.edges
  · rw [if_pos h]
    unfold endG rightT toLink
    rw [if_pos h]
    simp [overG]
  rw [if_neg h]
  unfold LinkP at hl
  have hk : (l - b.edges).toNat < b.outer.length := by omega
  have hmem := List.mem_of_getElem? (getD_lt (d := default) hk)
  have h1 := hm.ne _ hmem
  have h2 := atS_mem (hs _ hmem)
  have e1 : wiA (overG a b.outer outs) (l - b.edges).toNat = (b.outer.getD (l - b.edges).toNat default, a.edges + atS outs (b.outer.getD (l - b.edges).toNat default)) := getD_some (by
    show (b.outer.map fun s => (s, a.edges + atS outs s))[(l - b.edges).toNat]? = _
    rw [List.getElem?_map, getD_lt (d := default) hk]
    rfl)
  rw [e1]
  have e2 : endG b l = (0, b.outer.getD (l - b.edges).toNat default) := by unfold endG; rw [if_neg h]
  rw [e2]
  unfold rightT asNameE toLink upL overG
  simp only
  rw [if_neg h1, if_neg h1, if_neg (by omega)]
  show a.edges + atS outs (b.outer.getD (l - b.edges).toNat default) + b.edges = a.edges + b.edges + atS outs (b.outer.getD (l - b.edges).toNat default)
  omega
theorem over_comp (ha : GoodP sig a) (hb : GoodP sig b) (hn : NamesP a.outer) (hm : NamesP b.outer) (hs : ∀ s ∈ a.outer, s ∈ outs) (ht : ∀ s ∈ b.outer, s ∈ outs) : compG (overG a b.outer outs) b = nestG a b outs := by
  have hlen : (overG a b.outer outs).nodes.length = a.nodes.length := by simp [overG, relinkG]
  have hpl : ∀ p, dnP (overG a b.outer outs) p = movedG a (underA a) p := fun p => by
    rw [moved_place]
    unfold dnP
    rw [hlen]
    rfl
  refine gr_ext _ _ rfl ?_ ?_ rfl rfl ?_
  · show ((a.nodes.map _).map _) ++ (b.nodes.map _) = a.nodes.map _ ++ ((b.nodes.map _).map _)
    rw [List.map_map, List.map_map]
    congr 1
    · refine List.map_congr_left fun x hx => ?_
      obtain ⟨i, hi', e⟩ := List.getElem_of_mem hx
      obtain ⟨_, _, _, b4⟩ := ha.nod i x (by rw [List.getElem?_eq_getElem hi', e])
      refine Prod.ext rfl (Prod.ext rfl ?_)
      show (x.2.2.map _).map _ = x.2.2.map _
      rw [List.map_map]
      exact List.map_congr_left fun l hl => over_up ha hb hn hs (b4 l hl)
    refine List.map_congr_left fun x hx => ?_
    obtain ⟨i, hi', e⟩ := List.getElem_of_mem hx
    obtain ⟨_, _, _, b4⟩ := hb.nod i x (by rw [List.getElem?_eq_getElem hi', e])
    exact Prod.ext rfl (Prod.ext (hpl _) (List.map_congr_left fun l hl => over_dn ha hb hm ht (b4 l hl)))
  · show b.sites.map _ = [] ++ b.sites.map _
    rw [List.nil_append]
    exact List.map_congr_left fun p _ => hpl p
  show b.inner.map _ = b.inner.map _
  refine List.map_congr_left fun x hx => ?_
  rw [over_dn ha hb hm ht (hb.inr x hx)]
end

section
variable {sig : List Ct} {a b : Gr} {outs : List ByteArray}
theorem nest_left (ha : GoodP sig a) (hn : NamesP a.outer) {E : Int} {l : Int} (hl : LinkP a l) : atI (edgesL 0 a.edges ++ namedS a.outer E outs) l = toLink E outs (endG a l) := by
  have h1 := ha.e
  unfold LinkP at hl
  unfold toLink endG
  by_cases h : l < a.edges
  · rw [if_pos h, edges_at hl.1 h, if_pos rfl]
    show 0 + l = l
    omega
  have hk : (l - a.edges).toNat < a.outer.length := by omega
  have hm := List.mem_of_getElem? (getD_lt (d := default) hk)
  rw [if_neg h, if_neg (hn.ne _ hm), edges_behind h1.1 (by omega)]
  have e : (namedS a.outer E outs)[(l - a.edges).toNat]? = some (E + atS outs (a.outer.getD (l - a.edges).toNat default)) := by
    unfold namedS
    rw [List.getElem?_map, getD_lt (d := default) hk, Option.map_some]
  rw [getD_some e]
theorem nest_right (hb : GoodP sig b) (hm : NamesP b.outer) {E : Int} {l : Int} (hl : LinkP b l) : atI (edgesL a.edges b.edges ++ namedS b.outer E outs) l = toLink E outs (rightT a asNameE (endG b l)) := by
  have h1 := hb.e
  unfold LinkP at hl
  unfold endG
  by_cases h : l < b.edges
  · rw [if_pos h, edges_at hl.1 h]
    unfold rightT toLink
    rw [if_pos rfl, if_pos rfl]
    show a.edges + l = l + a.edges
    omega
  have hk : (l - b.edges).toNat < b.outer.length := by omega
  have hmm := List.mem_of_getElem? (getD_lt (d := default) hk)
  rw [if_neg h, edges_behind h1.1 (by omega)]
  unfold rightT toLink asNameE
  rw [if_neg (hm.ne _ hmm)]
  show _ = if (b.outer.getD (l - b.edges).toNat default) = bE then _ else _
  rw [if_neg (hm.ne _ hmm)]
  have e : (namedS b.outer E outs)[(l - b.edges).toNat]? = some (E + atS outs (b.outer.getD (l - b.edges).toNat default)) := by
    unfold namedS
    rw [List.getElem?_map, getD_lt (d := default) hk, Option.map_some]
  rw [getD_some e]
/-- What the reference nests is what the program nests. -/
theorem nest_under (ha : GoodP sig a) (hb : GoodP sig b) (hn : NamesP a.outer) (hm : NamesP b.outer) : underG a b outs (namedS a.outer (a.edges + b.edges) outs) (namedS b.outer (a.edges + b.edges) outs) = nestG a b outs := by
  have hpl : ∀ p, parentS a.nodes.length (holesS a) p = movedG a (underA a) p := fun p => by rw [hole_dn ha, moved_place]
  refine gr_ext _ _ rfl ?_ ?_ rfl rfl ?_
  · show (a.nodes.map _) ++ (b.nodes.map _) = a.nodes.map _ ++ ((b.nodes.map _).map _)
    rw [List.map_map]
    congr 1
    · refine List.map_congr_left fun x hx => ?_
      obtain ⟨i, hi', e⟩ := List.getElem_of_mem hx
      obtain ⟨_, b2, _, b4⟩ := ha.nod i x (by rw [List.getElem?_eq_getElem hi', e])
      exact Prod.ext rfl (Prod.ext (root_same ha b2.1) (List.map_congr_left fun l hl => nest_left ha hn (b4 l hl)))
    refine List.map_congr_left fun x hx => ?_
    obtain ⟨i, hi', e⟩ := List.getElem_of_mem hx
    obtain ⟨_, _, _, b4⟩ := hb.nod i x (by rw [List.getElem?_eq_getElem hi', e])
    exact Prod.ext rfl (Prod.ext (hpl _) (List.map_congr_left fun l hl => nest_right hb hm (b4 l hl)))
  · show b.sites.map _ = [] ++ b.sites.map _
    rw [List.nil_append]
    exact List.map_congr_left fun p _ => hpl p
  show b.inner.map _ = b.inner.map _
  exact List.map_congr_left fun x hx => Prod.ext rfl (nest_right hb hm (hb.inr x hx))

/-- Links of the program's ends are links of the result. -/
theorem to_left (ha : GoodP sig a) (hn : NamesP a.outer) (hs : ∀ s ∈ a.outer, s ∈ outs) {E : Int} (hE : a.edges ≤ E) {l : Int} (hl : LinkP a l) : 0 ≤ toLink E outs (endG a l) ∧ toLink E outs (endG a l) < E + outs.length := by
  have h1 := ha.e
  unfold LinkP at hl
  unfold toLink endG
  by_cases h : l < a.edges
  · rw [if_pos h, if_pos rfl]
    show 0 ≤ l ∧ l < E + outs.length
    omega
  have hk : (l - a.edges).toNat < a.outer.length := by omega
  have hm := List.mem_of_getElem? (getD_lt (d := default) hk)
  rw [if_neg h, if_neg (hn.ne _ hm)]
  have h2 := atS_mem (hs _ hm)
  have h3 := atS_lt (hs _ hm)
  show 0 ≤ E + atS outs (a.outer.getD (l - a.edges).toNat default) ∧ E + atS outs (a.outer.getD (l - a.edges).toNat default) < E + outs.length
  omega
/-- The bigraph over which a nesting is a composition is valid. -/
theorem over_good (ha : GoodP sig a) (hb : GoodP sig b) (hn : NamesP a.outer) (hs : ∀ s ∈ a.outer, s ∈ outs) (ht : ∀ s ∈ b.outer, s ∈ outs) (ho : namesB outs = true) : GoodP sig (overG a b.outer outs) := by
  have hna : ∀ i : Nat, nodA (overG a b.outer outs) i = ((nodA a i).1, (nodA a i).2.1, (nodA a i).2.2.map fun l => toLink a.edges outs (endG a l)) := fun i => by
    show ((a.nodes.map _).getD i nod0 : Nod) = _
    by_cases h : i < a.nodes.length
    · rw [getD_some (by rw [List.getElem?_map, getD_lt (d := nod0) h]; rfl)]
      rfl
    have e1 : a.nodes.getD i nod0 = nod0 := by simp [List.getD, h]
    unfold nodA
    rw [e1]
    simp [List.getD, h, nod0]
  have hun : ∀ p below, UnderP sig a p below → UnderP sig (overG a b.outer outs) p below := fun p below h => ⟨h.1, fun hp => ⟨(h.2 hp).1, by rw [hna]; exact (h.2 hp).2⟩⟩
  have hi : innerN (overG a b.outer outs) = b.outer := by
    show ((b.outer.map fun s => (s, a.edges + atS outs s)).map fun x : Wi => x.1) = b.outer
    rw [List.map_map]
    exact map_same fun _ _ => rfl
  refine ⟨ha.sg, ha.r, ?_, ha.s4, ha.e, ho, by rw [hi]; exact hb.on, fun i x hx => ?_, fun p hp => ?_, fun x hx => ?_⟩
  · show (a.nodes.map _).length ≤ 8
    rw [List.length_map]; exact ha.n8
  · obtain ⟨y, hy, rfl⟩ : ∃ y, a.nodes[i]? = some y ∧ (y.1, y.2.1, y.2.2.map fun l => toLink a.edges outs (id (endG a l))) = x := by
      have h : (a.nodes.map fun x : Nod => (x.1, x.2.1, x.2.2.map fun l => toLink a.edges outs (id (endG a l))))[i]? = some x := hx
      rw [List.getElem?_map] at h
      cases hy : a.nodes[i]? with
      | none => rw [hy] at h; cases h
      | some y => rw [hy] at h; exact ⟨y, rfl, by simpa using h⟩
    obtain ⟨b1, b2, b3, b4⟩ := ha.nod i y hy
    refine ⟨b1, hun _ _ b2, ?_, fun l hl => ?_⟩
    · show ((y.2.2.map _).length : Int) = _
      rw [List.length_map]; exact b3
    obtain ⟨l0, hl0, rfl⟩ := List.mem_map.1 hl
    exact to_left ha hn hs (Int.le_refl _) (b4 l0 hl0)
  · have e : (overG a b.outer outs).nodes.length = a.nodes.length := by simp [overG, relinkG]
    rw [e]
    exact hun _ _ (ha.sit p hp)
  obtain ⟨s, hs2, rfl⟩ := List.mem_map.1 (show x ∈ b.outer.map _ from hx)
  have h2 := atS_mem (ht _ hs2)
  have h3 := atS_lt (ht _ hs2)
  have h1 := ha.e
  show 0 ≤ a.edges + atS outs s ∧ a.edges + atS outs s < a.edges + outs.length
  omega
theorem over_fits (hr : (a.sites.length : Int) = b.roots) : FitsP (overG a b.outer outs) b := ⟨hr, by
  show ((b.outer.map fun s => (s, a.edges + atS outs s)).map fun x : Wi => x.1) = b.outer
  rw [List.map_map]
  exact map_same fun _ _ => rfl⟩
/-- The parallel product of a bigraph without inner names with an identity of names. -/
theorem par_over (h0 : a.inner = []) {names : List ByteArray} (hm : NamesP names) :
    joinedG a (idG 0 names) (a.roots + (idG 0 names).roots) a.sites outs (fun p => p - a.roots) asNameE = overG a names outs := by
  have e1 : a.edges + (idG 0 names).edges = a.edges := Int.add_zero _
  have e2 : a.roots + (idG 0 names).roots = a.roots := Int.add_zero _
  unfold joinedG
  rw [e1, e2]
  refine gr_ext _ _ rfl ?_ ?_ rfl rfl ?_
  · show (relinkG a a.edges outs id).nodes ++ [] = _
    rw [List.append_nil]
    rfl
  · show a.sites ++ [] = a.sites
    rw [List.append_nil]
  show ((List.range names.length).map fun i : Nat => (names.getD i default, (i : Int))).map _ = names.map _
  rw [List.map_map]
  refine List.ext_getElem? fun i => ?_
  rw [List.getElem?_map, List.getElem?_map]
  by_cases hi : i < names.length
  · rw [List.getElem?_range hi, getD_lt (d := default) hi]
    have hmem := List.mem_of_getElem? (getD_lt (d := default) hi)
    have hne := hm.ne _ hmem
    have e3 : endG (idG 0 names) (i : Int) = (0, names.getD i default) := by
      unfold endG
      rw [if_neg (by show ¬ ((i : Int) < 0); omega)]
      show (0, names.getD ((i : Int) - 0).toNat default) = _
      rw [Int.sub_zero, Int.toNat_natCast]
    show some (names.getD i default, toLink a.edges outs (rightT a asNameE (endG (idG 0 names) (i : Int)))) = some (names.getD i default, a.edges + atS outs (names.getD i default))
    rw [e3]
    unfold rightT asNameE toLink
    rw [if_neg hne]
    show some (_, if names.getD i default = bE then _ else _) = _
    rw [if_neg hne]
  rw [List.getElem?_eq_none (by simpa using Nat.le_of_not_lt hi), List.getElem?_eq_none (by omega)]
  rfl
theorem moved_big (hsa : SmallG a) {p : Int} (hp : -9223372036854775808 ≤ p) : -9223372036854775808 ≤ movedG a (underA a) p := by
  unfold movedG underA
  split
  · omega
  by_cases h : (-1 - p).toNat < a.sites.length
  · rw [show a.sites.getD (-1 - p).toNat 0 = a.sites[(-1 - p).toNat] from by simp [List.getD, h]]
    exact hsa.sits _ (List.getElem_mem h)
  rw [show a.sites.getD (-1 - p).toNat 0 = 0 from by simp [List.getD, h]]
  decide
theorem nest_small (hsa : SmallG a) (hsb : SmallG b) (ha : GoodP sig a) (hb : GoodP sig b) (ho : outs.length ≤ 1000) (hz : ∀ s ∈ outs, s.size ≤ 1000) : SmallG (nestG a b outs) := by
  have hn1 := ha.n8
  have hn2 := hb.n8
  have he1 := ha.e
  have he2 := hb.e
  refine { nodes := ?_, links := fun x hx => ?_, sites := ?_, outer := ho, onames := hz, inner := ?_, inames := fun x hx => ?_, edges := ?_, roots := hsa.roots, pars := fun x hx => ?_, sits := fun p hp => ?_ }
  · show ((a.nodes.map _) ++ ((b.nodes.map _).map _)).length ≤ 1000
    rw [List.length_append, List.length_map, List.length_map, List.length_map]
    omega
  · rcases List.mem_append.1 (show x ∈ (a.nodes.map _) ++ ((b.nodes.map _).map _) from hx) with h | h
    · obtain ⟨y, hy, rfl⟩ := List.mem_map.1 h
      show (y.2.2.map _).length ≤ 1000
      rw [List.length_map]; exact hsa.links y hy
    obtain ⟨z, hz, rfl⟩ := List.mem_map.1 h
    obtain ⟨y, hy, rfl⟩ := List.mem_map.1 hz
    show (y.2.2.map _).length ≤ 1000
    rw [List.length_map]; exact hsb.links y hy
  · show ([] ++ b.sites.map _).length ≤ 1000
    rw [List.nil_append, List.length_map]; exact hsb.sites
  · show (b.inner.map _).length ≤ 1000
    rw [List.length_map]; exact hsb.inner
  · obtain ⟨y, hy, rfl⟩ := List.mem_map.1 (show x ∈ b.inner.map _ from hx)
    exact hsb.inames y hy
  · show -1000 ≤ a.edges + b.edges ∧ a.edges + b.edges ≤ 1000
    omega
  · rcases List.mem_append.1 (show x ∈ (a.nodes.map _) ++ ((b.nodes.map _).map _) from hx) with h | h
    · obtain ⟨y, hy, rfl⟩ := List.mem_map.1 h
      exact hsa.pars y hy
    obtain ⟨z, hz, rfl⟩ := List.mem_map.1 h
    obtain ⟨y, hy, rfl⟩ := List.mem_map.1 hz
    exact moved_big hsa (hsb.pars y hy)
  obtain ⟨y, hy, rfl⟩ := List.mem_map.1 (show p ∈ b.sites.map _ from hp)
  exact moved_big hsa (hsb.sits y hy)
end

def sortW (l : List Wi) : List Wi := l.mergeSort fun x y => !lessS y.1 x.1
theorem sortW_pair (l : List Wi) : (sortW l).Pairwise fun x y => lessS y.1 x.1 = false := by
  have := List.pairwise_mergeSort (le := fun x y : Wi => !lessS y.1 x.1) (fun a b c h1 h2 => by
    simp only [Bool.not_eq_true'] at *
    cases h : lessS c.1 a.1
    · rfl
    · exfalso
      by_cases hab : a.1 = b.1
      · rw [hab] at h; rw [h] at h2; cases h2
      have h3 : lessS a.1 b.1 = true := by
        cases h4 : lessS a.1 b.1
        · exact absurd (less_total h4 h1) hab
        rfl
      have := less_trans h h3
      rw [this] at h2; cases h2) (fun a b => by
    simp only [Bool.or_eq_true, Bool.not_eq_true']
    cases h : lessS b.1 a.1
    · exact .inl rfl
    exact .inr (less_asym h)) l
  exact this.imp fun h => by simpa using h
theorem sortW_perm (l : List Wi) : (sortW l).Perm l := List.mergeSort_perm _ _
/-- Sorted lists of wires of the same elements are the same if no two have one name. -/
theorem sorted_one : ∀ {l m : List Wi}, l.Perm m → (l.map fun x => x.1).Nodup → (l.Pairwise fun x y => lessS y.1 x.1 = false) → (m.Pairwise fun x y => lessS y.1 x.1 = false) → l = m
  | [], m, h, _, _, _ => (List.nil_perm.1 h).symm
  | x :: l, [], h, _, _, _ => (nomatch (List.perm_nil.1 h))
  | x :: l, y :: m, h, hn, h1, h2 => by
    have hxy : x = y := by
      rcases List.mem_cons.1 (h.mem_iff.1 List.mem_cons_self) with e | hx
      · exact e
      rcases List.mem_cons.1 (h.mem_iff.2 (List.mem_cons_self (a := y) (l := m))) with e | hy
      · exact e.symm
      have a1 := (List.pairwise_cons.1 h2).1 x hx
      have a2 := (List.pairwise_cons.1 h1).1 y hy
      have e := less_total a1 a2
      exfalso
      rw [List.map_cons, List.nodup_cons] at hn
      exact hn.1 (e ▸ List.mem_map.2 ⟨y, hy, rfl⟩)
    subst hxy
    rw [List.map_cons, List.nodup_cons] at hn
    rw [sorted_one h.cons_inv hn.2 (List.pairwise_cons.1 h1).2 (List.pairwise_cons.1 h2).2]
theorem sortW_of {l ys : List Wi} (hn : (l.map fun x => x.1).Nodup) (hp : ys.Perm l) (hs : ys.Pairwise fun x y => lessS y.1 x.1 = false) : ys = sortW l :=
  sorted_one (hp.trans (sortW_perm l).symm) ((hp.map _).nodup_iff.2 hn) hs (sortW_pair l)
theorem sortW_asc {l : List Wi} (h : AscS (l.map fun x => x.1)) : sortW l = l := (sortW_of (asc_nodup h) (List.Perm.refl l) (by
  unfold AscS at h
  rw [List.pairwise_map] at h
  exact h.imp fun h => less_asym h)).symm

/-- The parallel product. -/
def parJ (a b : Gr) : Gr := joinedG a b (a.roots + b.roots) a.sites (sortS (a.outer ++ b.outer)) (fun p => p - a.roots) asNameE
def parI (a b : Gr) : List Wi := (relinkG a (a.edges + b.edges) (sortS (a.outer ++ b.outer)) id).inner ++ (parJ a b).inner
def parG (a b : Gr) : Gr := { parJ a b with inner := sortW (parI a b) }
def commonB (l m : List ByteArray) : Bool := anyR l.length fun k => decide (0 ≤ atS m (l.getD k default))
def parB (sig : List Ct) (a b : Gr) : Bool := goodG sig a && goodG sig b && !commonB (innerN a) (innerN b) && goodG sig (parG a b)
theorem parI_names (a b : Gr) : ((parI a b).map fun x => x.1) = innerN a ++ innerN b := by
  unfold parI parJ joinedG relinkG innerN
  rw [List.map_append]
  simp only [List.map_map]
  rfl
theorem common_nodup {l m : List ByteArray} (h : commonB l m = false) (hl : l.Nodup) (hm : m.Nodup) : (l ++ m).Nodup := by
  rw [List.nodup_append]
  refine ⟨hl, hm, fun x hx y hy e => ?_⟩
  subst e
  obtain ⟨i, hi, rfl⟩ := List.getElem_of_mem hx
  unfold commonB anyR at h
  rw [List.any_eq_false] at h
  have h2 := h i (List.mem_range.2 hi)
  rw [getD_some (List.getElem?_eq_getElem hi)] at h2
  exact h2 (decide_eq_true (atS_mem hy))

/-- Whether two bigraphs can be nested. -/
def nestB (sig : List Ct) (a b : Gr) : Bool := goodG sig a && goodG sig b && (a.inner.length == 0) && decide ((a.sites.length : Int) = b.roots) && goodG sig (nestG a b (sortS (a.outer ++ b.outer)))
theorem nestB_parts {sig : List Ct} {a b : Gr} (h : nestB sig a b = true) : (goodG sig a = true ∧ goodG sig b = true ∧ a.inner = [] ∧ (a.sites.length : Int) = b.roots) ∧ goodG sig (nestG a b (sortS (a.outer ++ b.outer))) = true := by
  unfold nestB at h
  simp only [Bool.and_eq_true, beq_iff_eq, decide_eq_true_eq, List.length_eq_zero_iff] at h
  exact ⟨⟨h.1.1.1.1, h.1.1.1.2, h.1.1.2, h.1.2⟩, h.2⟩
theorem nest_good_of {sig : List Ct} {a b : Gr} (h : nestB sig a b = true) : GoodP sig (nestG a b (sortS (a.outer ++ b.outer))) := (good_iff _ _).1 (nestB_parts h).2
/-- The law of nesting: where two bigraphs are nested, all parts of the composition are there, and it is the nesting. -/
theorem nest_law {sig : List Ct} {a b : Gr} (h : nestB sig a b = true) : (inB 0 0 4 && namesB b.outer) = true ∧ parB sig a (idG 0 b.outer) = true ∧ parG a (idG 0 b.outer) = overG a b.outer (sortS (a.outer ++ b.outer)) ∧
    compR sig (overG a b.outer (sortS (a.outer ++ b.outer))) b = true ∧ compG (overG a b.outer (sortS (a.outer ++ b.outer))) b = nestG a b (sortS (a.outer ++ b.outer)) ∧ GoodP sig (overG a b.outer (sortS (a.outer ++ b.outer))) := by
  obtain ⟨⟨h1, h2, h3, h4⟩, h5⟩ := nestB_parts h
  have ha := (good_iff _ _).1 h1
  have hb := (good_iff _ _).1 h2
  have hn := (good_iff _ _).1 h5
  have na := names_np ha.on
  have nb := names_np hb.on
  have s1 : ∀ s ∈ a.outer, s ∈ sortS (a.outer ++ b.outer) := fun s hs => sortS_mem.2 (List.mem_append_left _ hs)
  have s2 : ∀ s ∈ b.outer, s ∈ sortS (a.outer ++ b.outer) := fun s hs => sortS_mem.2 (List.mem_append_right _ hs)
  have ho := over_good (outs := sortS (a.outer ++ b.outer)) ha hb na s1 s2 hn.on
  have hc := over_comp ha hb na nb s1 s2
  have hi : innerN (idG 0 b.outer) = b.outer := idG_inner 0 b.outer
  have hpo : parJ a (idG 0 b.outer) = overG a b.outer (sortS (a.outer ++ b.outer)) := par_over h3 nb
  have hpi : parI a (idG 0 b.outer) = (overG a b.outer (sortS (a.outer ++ b.outer))).inner := by
    unfold parI
    rw [hpo, show (relinkG a (a.edges + (idG 0 b.outer).edges) (sortS (a.outer ++ (idG 0 b.outer).outer)) id).inner = [] from by unfold relinkG; simp only; rw [h3]; rfl, List.nil_append]
  have hp : parG a (idG 0 b.outer) = overG a b.outer (sortS (a.outer ++ b.outer)) := by
    unfold parG
    rw [hpi, hpo, sortW_asc]
    show AscS (innerN (overG a b.outer (sortS (a.outer ++ b.outer))))
    rw [(over_fits h4).2]
    exact names_asc hb.on
  refine ⟨by rw [hb.on]; rfl, ?_, hp, ?_, hc, ho⟩
  · unfold parB
    rw [hp, h1, (good_iff _ _).2 ho, (good_iff _ _).2 (id_good ha.sg hb.on (by omega)), show innerN a = [] from by unfold innerN; rw [h3]; rfl]
    rfl
  unfold compR
  rw [(good_iff _ _).2 ho, h2, (fits_iff _ _).2 (over_fits h4), hc, h5]
  rfl

end Go.Proofs.YtijkdpdmclkmlaaGreatDoor
