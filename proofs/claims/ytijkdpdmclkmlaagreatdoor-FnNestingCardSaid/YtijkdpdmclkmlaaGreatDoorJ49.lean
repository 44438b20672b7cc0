/- The draw of two bigraphs of which one is nested in the other: walked. -/
import Derived.Test.YtijkdpdmclkmlaaGreatDoorProg
import Derived.Test.YtijkdpdmclkmlaaGreatDoorJ40
import Derived.Test.YtijkdpdmclkmlaaGreatDoorJ48
import Derived.Test.YtijkdpdmclkmlaaGreatDoorJ0
import Derived.Test.YtijkdpdmclkmlaaGreatDoorJ47
import Derived.Test.YtijkdpdmclkmlaaGreatDoorJ39
import Derived.Test.YtijkdpdmclkmlaaGreatDoorJ33
import Derived.BigQuiet
import Derived.IntWalk
set_option linter.unusedSimpArgs false
set_option linter.unusedVariables false
set_option maxRecDepth 100000
set_option maxHeartbeats 16000000
namespace Go.Proofs.YtijkdpdmclkmlaaGreatDoor
open Go.RowKit
section
variable {B B' : Nat} {W W' : World} {nv sv ov iv : Value} {g : Gr}
theorem RowsG.kept {T : Nat → Prop} (h : RowsG B W nv sv ov iv g) (hk : Kept T W W') (hT : ∀ q, T q → q < B ∨ W.heap.size ≤ q ∨ (∃ cs, W.heap[q]? = some (.cells cs 31))) : RowsG B W' nv sv ov iv g := by
  have key : ∀ {e : TypeId} {s n : Nat} {v : Value} {xs : List Value}, e ≠ 31 → W.ownsRow B e s v n xs → W'.ownsRow B e s v n xs := fun he ho => ownsK ho hk (fun q hq ht => by
    rcases hT q ht with h1 | h1 | ⟨cs, h1⟩
    · have := (ho.lt q hq).1; omega
    · have := (ho.lt q hq).2; omega
    exact ownsT ho h1 he hq)
  obtain ⟨C, d, ls, hN, hS, hO, hI⟩ := h
  exact ⟨C, d, ls, { hN with own := key (by decide) hN.own, lk := fun i l x hl hx => key (by decide) (hN.lk i l x hl hx) }, key (by decide) hS, key (by decide) hO, key (by decide) hI⟩
theorem RowsG.below (h : RowsG B W nv sv ov iv g) (hb : Below W.heap.size W W') : RowsG B W' nv sv ov iv g := h.kept (Kept.of_below hb (fun _ => False)) (fun q h => h.elim)
theorem RowsG.rgr (h : RowsG B W nv sv ov iv g) (hs : SmallG g) : RGr W nv sv ov iv g := by
  obtain ⟨C, d, ls, hN, hS, hO, hI⟩ := h
  exact (rk_of hN hS hO hI hs).now
theorem RowsG.noInner (h : RowsG B W nv sv ov iv g) : RowsG B W nv sv ov (.slice none 0 0) { g with inner := [] } := by
  obtain ⟨C, d, ls, hN, hS, hO, hI⟩ := h
  exact ⟨C, d, ls, hN, hS, hO, none_row⟩
theorem RowsG.sites (h : RowsG B W nv sv ov iv g) {r : Int} {u : Value} {l : List Int} (hu : W.ownsRow B 3 1 u l.length (ints l)) : RowsG B W nv u ov iv { g with roots := r, sites := l } := by
  obtain ⟨C, d, ls, hN, hS, hO, hI⟩ := h
  exact ⟨C, d, ls, hN, hu, hO, hI⟩
theorem owns_bel {e : TypeId} {s n : Nat} {v : Value} {xs : List Value} (h : W.ownsRow B e s v n xs) (hb : Below W.heap.size W W') : W'.ownsRow B e s v n xs := ownsK h (Kept.of_below hb (fun _ => False)) (fun _ _ h => h.elim)
theorem kept_newer {S T : Nat → Prop} {w w5 w6 : World} (h : Kept S w w5) (k : Kept T w5 w6) (hT : ∀ q, T q → S q ∨ w.heap.size ≤ q) : Kept S w w6 :=
  ⟨k.os.trans h.os, k.tape.trans h.tape, k.output.trans h.output, Nat.le_trans h.size k.size, fun b hb hn => (k.block b (Nat.lt_of_lt_of_le hb h.size) (fun e => by rcases hT b e with h1 | h1; exact hn h1; omega)).trans (h.block b hb hn)⟩
/-- A signature, and a bigraph in the box P, that have been drawn. -/
structure D1 (n : Nat) (W0 : World) (A : Option Addr) (bs : List Int) (c K : Nat) (gv : Value) (sig : List Ct) (B P : Nat) (nv sv ov iv : Value) (g : Gr) (W : World) : Prop where
  k : Kept (fun q => q = n) W0 W
  cur : Cur W n A bs c K
  sg : W.ownsRow W0.heap.size 44 3 gv sig.length (sig.flatMap encCt)
  box : W.heap[P]? = some (.cells #[.int .i64 g.roots, nv, sv, .int .i64 g.edges, ov, iv] 31)
  rows : RowsG B W nv sv ov iv g
theorem D1.later {n c K K' P : Nat} {W0 : World} {A : Option Addr} {bs : List Int} {gv : Value} {sig : List Ct} (h : D1 n W0 A bs c K gv sig B P nv sv ov iv g W) (hn : n < W0.heap.size) (hB : W0.heap.size ≤ B) (hP : n < P) (hk : Kept (fun q => q = n ∨ W.heap.size ≤ q) W W') (hC : Cur W' n A bs c K') : D1 n W0 A bs c K' gv sig B P nv sv ov iv g W' :=
  { k := kept_newer h.k hk (fun q hq => by have := h.k.size; rcases hq with hq | hq; exact .inl hq; exact .inr (by omega)), cur := hC
    sg := ownsK h.sg hk (fun q hq e => by have := h.sg.lt q hq; omega)
    box := (hk.block P (Array.getElem?_eq_some_iff.1 h.box).1 (fun e => by have := (Array.getElem?_eq_some_iff.1 h.box).1; omega)).trans h.box
    rows := h.rows.kept hk (fun q hq => by rcases hq with hq | hq; exact .inl (by omega); exact .inr (.inl hq)) }
theorem kept_box {n : Nat} {W W' : World} {P : Nat} {o : Obj} (h : W.heap[P]? = some o) (hn : n < P) (hk : Kept (fun q => q = n ∨ W.heap.size ≤ q) W W') : W'.heap[P]? = some o :=
  (hk.block P (Array.getElem?_eq_some_iff.1 h).1 (fun e => by have := (Array.getElem?_eq_some_iff.1 h).1; omega)).trans h
theorem kept_later {T : Nat → Prop} {n : Nat} {w w5 w6 : World} (h : Kept (fun q => q = n ∨ w.heap.size ≤ q) w w5) (k : Kept T w5 w6) (hT : ∀ q, T q → q = n ∨ w.heap.size ≤ q) : Kept (fun q => q = n ∨ w.heap.size ≤ q) w w6 := h.trans (k.mono hT)
/-- The roots that the other one's roots become. -/
def rootsD (m k : Nat) : List Int := (List.range k).map fun r : Nat => -1 - ((r % m : Nat) : Int)
theorem rootsD_len (m k : Nat) : (rootsD m k).length = k := by simp [rootsD]
theorem rootsD_next (m k : Nat) : ints (rootsD m (k + 1)) = ints (rootsD m k) ++ [.int .i64 (-1 - ((k % m : Nat) : Int))] := by
  unfold rootsD
  rw [List.range_succ, List.map_append]
  simp [ints]
theorem rootsD_mem {m k : Nat} {x : Int} (hm : 0 < m) (h : x ∈ rootsD m k) : -1 - (m : Int) ≤ x ∧ x ≤ -1 := by
  obtain ⟨r, _, rfl⟩ := List.mem_map.1 h
  have := Nat.mod_lt r hm
  omega
/-- The first k nodes have their new parents. -/
def turnP (f : Int → Int) (ns : List Nod) (k : Nat) : List Nod := (ns.take k).map (fun x => (x.1, f x.2.1, x.2.2)) ++ ns.drop k
theorem turnP_len (f : Int → Int) (ns : List Nod) (k : Nat) : (turnP f ns k).length = ns.length := by
  unfold turnP
  rw [List.length_append, List.length_map, List.length_take, List.length_drop]
  omega
theorem turnP_zero (f : Int → Int) (ns : List Nod) : turnP f ns 0 = ns := by simp [turnP]
theorem turnP_all (f : Int → Int) (ns : List Nod) : turnP f ns ns.length = ns.map fun x => (x.1, f x.2.1, x.2.2) := by simp [turnP]
theorem turnP_at (f : Int → Int) {ns : List Nod} {k : Nat} (h : k < ns.length) : (turnP f ns k)[k]? = some ns[k] := by
  unfold turnP
  rw [List.getElem?_append_right (by rw [List.length_map, List.length_take]; omega), List.length_map, List.length_take, List.getElem?_drop, show k + (k - min k ns.length) = k by omega]
  exact List.getElem?_eq_getElem h
theorem turnP_set (f : Int → Int) {ns : List Nod} {k : Nat} (h : k < ns.length) : (turnP f ns k).set k (ns[k].1, f ns[k].2.1, ns[k].2.2) = turnP f ns (k + 1) := by
  unfold turnP
  have hl : ((ns.take k).map fun x : Nod => (x.1, f x.2.1, x.2.2)).length = k := by rw [List.length_map, List.length_take]; omega
  rw [List.set_append_right _ _ (by omega), hl, Nat.sub_self, List.drop_eq_getElem_cons h, List.set_cons_zero, List.take_succ_eq_append_getElem h, List.map_append, List.append_assoc]
  rfl
theorem RowsG.par {f : Int → Int} {ns : List Nod} {gn cc k : Nat} (h : RowsG B W nv sv ov iv { g with nodes := turnP f ns k }) (hk : k < ns.length) (hnv : nv = .slice (some ⟨gn, 0, none⟩) ns.length cc) : RowsG B (W.setCell ⟨gn, k * 3 + 1, none⟩ (.int .i64 (f ns[k].2.1))) nv sv ov iv { g with nodes := turnP f ns (k + 1) } := by
  obtain ⟨C, d, ls, hN, hS, hO, hI⟩ := h
  have hK : Kept (fun q => q = gn) W (W.setCell ⟨gn, k * 3 + 1, none⟩ (.int .i64 (f ns[k].2.1))) := (Kept.refl _ W).setCell (S := fun q => q = gn) (p := ⟨gn, k * 3 + 1, none⟩) rfl _
  have hog : nv.ownBlock = some gn := by rw [hnv]; rfl
  have h1 := hN.put2 (k := k) (g := gn) (c := cc) (by rw [hnv]; show Value.slice _ ns.length cc = Value.slice _ (turnP f ns k).length cc; rw [turnP_len]) (turnP_at f hk) (f ns[k].2.1)
  rw [show ((({ g with nodes := turnP f ns k } : Gr).nodes).set k (ns[k].1, f ns[k].2.1, ns[k].2.2)) = turnP f ns (k + 1) from turnP_set f hk] at h1
  exact ⟨C, d, ls, h1, ownsK hS hK (fun q hq e => by subst e; exact ownsA hS hN.own (by decide) q hq hog), ownsK hO hK (fun q hq e => by subst e; exact ownsA hO hN.own (by decide) q hq hog), ownsK hI hK (fun q hq e => by subst e; exact ownsA hI hN.own (by decide) q hq hog)⟩
theorem RowsG.par_cells {f : Int → Int} {ns : List Nod} {k : Nat} (h : RowsG B W nv sv ov iv { g with nodes := turnP f ns k }) (hk : k < ns.length) : ∃ gn cc, nv = .slice (some ⟨gn, 0, none⟩) ns.length cc ∧ W.cell? ⟨gn, k * 3 + 1, none⟩ = some (.int .i64 ns[k].2.1) ∧ W.frozen? ⟨gn, k * 3 + 1, none⟩ = false ∧ B ≤ gn ∧ gn < W.heap.size := by
  obtain ⟨C, d, ls, hN, hS, hO, hI⟩ := h
  have hl : k < ({ g with nodes := turnP f ns k } : Gr).nodes.length := by show k < (turnP f ns k).length; rw [turnP_len]; exact hk
  obtain ⟨gn, cc, l, e, _, _, h2, _⟩ := hN.cells hl
  have hx : ({ g with nodes := turnP f ns k } : Gr).nodes[k] = ns[k] := by
    have := turnP_at f hk
    rw [List.getElem?_eq_getElem hl] at this
    simpa using this
  rw [hx] at h2
  have e' : nv = .slice (some ⟨gn, 0, none⟩) ns.length cc := by rw [e]; show Value.slice _ (turnP f ns k).length cc = _; rw [turnP_len]
  have ho := hN.own
  have hlt := ho.lt gn (by rw [e']; rfl)
  rw [e', show ({ g with nodes := turnP f ns k } : Gr).nodes.length = ns.length from turnP_len f ns k] at ho
  exact ⟨gn, cc, e', h2, ho.frozenAt _, hlt.1, hlt.2⟩
theorem RowsG.par_at {f : Int → Int} {ns : List Nod} {k gn cc n : Nat} (h : RowsG B W nv sv ov iv { g with nodes := turnP f ns k }) (hk : k < ns.length) (hnv : nv = .slice (some ⟨gn, 0, none⟩) n cc) : W.cell? ⟨gn, k * 3 + 1, none⟩ = some (.int .i64 ns[k].2.1) ∧ W.frozen? ⟨gn, k * 3 + 1, none⟩ = false := by
  obtain ⟨gm, cm, e, h2, h3, _⟩ := h.par_cells hk
  rw [hnv] at e
  injection e with e1 e2 e3
  injection e1 with e1
  injection e1 with e1
  subst e1
  exact ⟨h2, h3⟩
theorem RowsG.own_lt (h : RowsG B W nv sv ov iv g) {q : Nat} (hq : nv.ownBlock = some q) : B ≤ q ∧ q < W.heap.size := by
  obtain ⟨C, d, ls, hN, _⟩ := h
  exact hN.own.lt q hq
theorem RowsG.own_box (h : RowsG B W nv sv ov iv g) {q : Nat} {cs : Array Value} (hx : W.heap[q]? = some (.cells cs 31)) : nv.ownBlock ≠ some q := by
  obtain ⟨C, d, ls, hN, _⟩ := h
  exact ownsT hN.own hx (by decide)
theorem SmallG.inner0 {g : Gr} (h : SmallG g) : SmallG { g with inner := [] } := { h with inner := Nat.zero_le _, inames := fun x hx => (nomatch hx) }
theorem parent_low {m k : Nat} {p : Int} (hm : 0 < m) (hm2 : m ≤ 1000) (hp : -9223372036854775808 ≤ p) : -9223372036854775808 ≤ parentS 0 (rootsD m k) p := by
  unfold parentS
  split
  · unfold atI
    by_cases h : (-1 - p).toNat < (rootsD m k).length
    · rw [show (rootsD m k).getD (-1 - p).toNat 0 = (rootsD m k)[(-1 - p).toNat] from by simp [List.getD, h]]
      have := rootsD_mem hm (List.getElem_mem h)
      omega
    rw [show (rootsD m k).getD (-1 - p).toNat 0 = 0 from by simp [List.getD, h]]
    decide
  omega
theorem nested_small {g : Gr} {m k : Nat} (h : SmallG g) (hm : 0 < m) (hm2 : m ≤ 1000) : SmallG ⟨(m : Int), g.nodes.map (fun x => (x.1, parentS 0 (rootsD m k) x.2.1, x.2.2)), g.sites.map (parentS 0 (rootsD m k)), g.edges, g.outer, g.inner⟩ :=
  { nodes := by show (g.nodes.map _).length ≤ 1000; rw [List.length_map]; exact h.nodes
    links := fun x hx => by obtain ⟨y, hy, rfl⟩ := List.mem_map.1 (show x ∈ g.nodes.map _ from hx); exact h.links y hy
    sites := by show (g.sites.map _).length ≤ 1000; rw [List.length_map]; exact h.sites
    outer := h.outer, onames := h.onames, inner := h.inner, inames := h.inames, edges := h.edges
    roots := by show (-1000 : Int) ≤ (m : Int) ∧ (m : Int) ≤ 1000; omega
    pars := fun x hx => by obtain ⟨y, hy, rfl⟩ := List.mem_map.1 (show x ∈ g.nodes.map _ from hx); exact parent_low hm hm2 (h.pars y hy)
    sits := fun p hp => by obtain ⟨y, hy, rfl⟩ := List.mem_map.1 (show p ∈ g.sites.map _ from hp); exact parent_low hm hm2 (h.sits y hy) }
end
theorem results_two {P : Program} {fn : Func} {p q r : Tmp} {ty : TypeId} (h : fn.results = #[.tmp q, .cell p ty, .cell r ty]) (tmps : Array Value) (w : World) (g k : Nat) (t : TypeId) (cs ds : Array Value) (fr fs : Nat × Nat) (d : TypeDesc)
    (hp : tmps.getD p undef = .pointer (some ⟨g, 0, none⟩)) (hr : tmps.getD r undef = .pointer (some ⟨k, 0, none⟩)) (hg : w.heap[g]? = some (.cells cs t fr)) (hk : w.heap[k]? = some (.cells ds t fs))
    (hu : P.underlying ty = some d) (hd : (match d with | .struct _ | .array _ _ => true | _ => false) = true) (hi : (P.info? ty).map (·.size) = some cs.size) (hj : (P.info? ty).map (·.size) = some ds.size) :
    (results fn tmps).run P w = .ok (.tuple #[tmps.getD q undef, .agg cs, .agg ds]) w := by
  have hp' : tmps[p]?.getD undef = .pointer (some ⟨g, 0, none⟩) := by simpa using hp
  have hr' : tmps[r]?.getD undef = .pointer (some ⟨k, 0, none⟩) := by simpa using hr
  simp [results, h, hp', hr', asAddr, run_loadVar_row w g t ty cs fr d hg hu hd hi, run_loadVar_row w k t ty ds fs d hk hu hd hj]

set_option maxRecDepth 100000 in
set_option maxHeartbeats 16000000 in
theorem drawNestBigraphs_any (A : Option Addr) (bs : List Int) (c : Nat) (w : World) (hA : Cells w A (u8s bs)) (hrng : ∀ x ∈ bs, 0 ≤ x ∧ x < 256) (hlen : bs.length ≤ 1000000000000) :
    Calls Tryz.prog 72 #[.slice A bs.length c] w fun e w' => ∃ gv sig ANA cNA ASA cSA AOA cOA AIA cIA ANB cNB ASB cSB AOB cOB AIB cIB gA gB, e = .returned (.tuple #[gv, .agg #[.int .i64 gA.roots, .slice ANA gA.nodes.length cNA, .slice ASA gA.sites.length cSA, .int .i64 gA.edges, .slice AOA gA.outer.length cOA, .slice AIA gA.inner.length cIA], .agg #[.int .i64 gB.roots, .slice ANB gB.nodes.length cNB, .slice ASB gB.sites.length cSB, .int .i64 gB.edges, .slice AOB gB.outer.length cOB, .slice AIB gB.inner.length cIB]]) ∧ SmallS sig ∧ CapOk gv ∧ RSl RCt 3 w' gv sig ∧ SmallG gA ∧ RGr w' (.slice ANA gA.nodes.length cNA) (.slice ASA gA.sites.length cSA) (.slice AOA gA.outer.length cOA) (.slice AIA gA.inner.length cIA) gA ∧ SmallG gB ∧ RGr w' (.slice ANB gB.nodes.length cNB) (.slice ASB gB.sites.length cSB) (.slice AOB gB.outer.length cOB) (.slice AIB gB.inner.length cIB) gB ∧ Below w.heap.size w w' := by
  obtain ⟨W0, hW0, hb0, hs0, bx0, bx1, -⟩ := laid3 w (.cells #[.int .i64 0, .slice none 0 0, .slice none 0 0, .int .i64 0, .slice none 0 0, .slice none 0 0] 31) (.cells #[.int .i64 0, .slice none 0 0, .slice none 0 0, .int .i64 0, .slice none 0 0, .slice none 0 0] 31) (.cells #[.slice A bs.length c, .int .i64 0, .int .u64 0] 72)
  have hC : Cur W0 (w.heap.size + 1 + 1) A bs c 0 := by
    have h := Cur.start (w := (w.alloc (.cells #[.int .i64 0, .slice none 0 0, .slice none 0 0, .int .i64 0, .slice none 0 0, .slice none 0 0] 31)).alloc (.cells #[.int .i64 0, .slice none 0 0, .slice none 0 0, .int .i64 0, .slice none 0 0, .slice none 0 0] 31)) (c := c) (hA.below ((((Below.refl w.heap.size w).alloc (Nat.le_refl _) (.cells #[.int .i64 0, .slice none 0 0, .slice none 0 0, .int .i64 0, .slice none 0 0, .slice none 0 0] 31))).alloc (by simp) (.cells #[.int .i64 0, .slice none 0 0, .slice none 0 0, .int .i64 0, .slice none 0 0, .slice none 0 0] 31))) hrng hlen
    rw [World.size_alloc, World.size_alloc] at h
    rw [hW0]; exact h
  have HS1 := Lib.hid (sig_any (w.heap.size + 1 + 1) A bs c 0 W0 hC (by omega))
  have HB0 := Lib.hid hb0
  have HX0 := Lib.hid bx0
  have HX1 := Lib.hid bx1
  have HW0 := Lib.hid hW0
  clear hC hb0 bx0 bx1 hW0 hA
  go_enter Tryz.func72, Tryz.ntmps72
  go_wp2_with fail
  rw [← HW0.out]
  (with_reducible refine HS1.out.mono ?_)
  rintro e w1 ⟨gv, sig, rfl, hD1, hC1, hK1⟩
  have HK1 := Lib.hid hK1
  have HDS := Lib.hid hD1
  have hs1 := hK1.size
  have HB2 := Lib.hid (show Calls Tryz.prog 137 #[.pointer (some ⟨w.heap.size + 1 + 1, 0, none⟩), gv, .int .i64 4] w1 _ from bigraph_any (w.heap.size + 1 + 1) A bs c (0 + 20) 4 W0.heap.size gv sig w1 hC1 (by omega) (by omega) (by omega) hD1.own hD1.small hD1.ports)
  clear hK1 hD1 hC1 HS1
  go_wp2_with fail
  (with_reducible refine HB2.out.mono ?_)
  rintro e w2 ⟨nvA, svA, ovA, ivA, gA, rfl, hr2, hsm2, hC2, hK2⟩
  have hs2 := hK2.size
  obtain ⟨wA, hwA, hbA, hsA, hxA⟩ := laid1 w2 (.cells #[.int .i64 gA.roots, nvA, svA, .int .i64 gA.edges, ovA, ivA] 31)
  have HD2 := Lib.hid (show D1 (w.heap.size + 1 + 1) W0 A bs c 20020 gv sig w1.heap.size w2.heap.size nvA svA ovA ivA gA wA from { k := kept_newer (HK1.out.trans hK2) (Kept.of_below hbA (fun _ => False)) (fun q h => h.elim), cur := (hC2.below hbA).mono (by omega), sg := owns_bel (ownsK HDS.out.own hK2 (fun q hq e => by have := HDS.out.own.lt q hq; omega)) hbA, box := hxA, rows := ((hr2 w2 (Kept.refl _ _)).2).below hbA })
  have HSMA := Lib.hid hsm2
  have HO := Lib.hid (one_any (w.heap.size + 1 + 1) A bs c 20020 8 wA HD2.out.cur (by omega) (by omega))
  have HWA := Lib.hid hwA
  have HNA := Lib.hid (hr2.now.form)
  clear hr2 hsm2 hC2 hK2 HB2 hwA hxA hbA
  obtain ⟨ANA, cNA, ASA, cSA, AOA, cOA, AIA, cIA, rfl, rfl, rfl, rfl⟩ := HNA.out
  clear HNA
  go_wp2_with fail
  rw [← HWA.out]
  (with_reducible refine HO.out.mono ?_)
  rintro e w3 ⟨b1, rfl, hC3, hK3⟩
  have HD3 := Lib.hid (HD2.out.later (by omega) (by omega) (by omega) (hK3.mono fun q hq => .inl hq) hC3)
  have hs3 := hK3.size
  clear hC3 hK3 HO HD2
  go_upto_if 22 with fail
  go_cut [] from 8 (fun wx => ∃ (A9 : Option Addr) (c9 : Nat) (is : List Wi), SmallG ({ gA with inner := is } : Gr) ∧ D1 (w.heap.size + 1 + 1) W0 A bs c 20022 gv sig w1.heap.size w2.heap.size (.slice ANA gA.nodes.length cNA) (.slice ASA gA.sites.length cSA) (.slice AOA gA.outer.length cOA) (.slice A9 is.length c9) ({ gA with inner := is } : Gr) wx)
  case first =>
    cases b1
    · obtain ⟨z0, z1, z2, z3, z4, z5, f0, f1, f2, f3, f4, f5⟩ := row6f HD3.out.box
      go_wp2_with fail
      go_meet
      case rel =>
        have h := HD3.out
        have hK : Kept (fun q => q = w2.heap.size) w3 (w3.setCell ⟨w2.heap.size, 5, none⟩ (.slice none 0 0)) := (Kept.refl _ _).setCell (S := fun q => q = w2.heap.size) (p := ⟨w2.heap.size, 5, none⟩) rfl _
        exact ⟨none, 0, [], HSMA.out.inner0, { k := kept_newer h.k hK (fun q hq => .inr (by omega)), cur := h.cur.kept hK (fun q hq => by omega), sg := ownsK h.sg hK (fun q hq e => by subst e; exact ownsT h.sg h.box (by decide) hq), box := heap_setCell_same _ _ 5 _ _ _ h.box, rows := (h.rows.kept hK (fun q hq => .inr (.inr (by subst hq; exact ⟨_, h.box⟩)))).noInner }⟩
    go_wp2_with fail
    go_meet
    case rel => exact ⟨AIA, cIA, gA.inner, HSMA.out, HD3.out⟩
  obtain ⟨A9, c9, is, hsm, hd⟩ := hcut
  obtain ⟨gE, hgE⟩ : ∃ gE, gE = { gA with inner := is } := ⟨_, rfl⟩
  have hd5 : D1 (w.heap.size + 1 + 1) W0 A bs c 20022 gv sig w1.heap.size w2.heap.size (.slice ANA gE.nodes.length cNA) (.slice ASA gE.sites.length cSA) (.slice AOA gE.outer.length cOA) (.slice A9 gE.inner.length c9) gE wc := by rw [hgE]; exact hd
  have hsmE : SmallG gE := by rw [hgE]; exact hsm
  clear hsm hd HD3 HSMA HWA
  have HDE := Lib.hid hd5
  have HSME := Lib.hid hsmE
  clear hd5 hsmE hgE
  obtain ⟨w5, hw5⟩ : ∃ w5, w5 = wc := ⟨_, rfl⟩
  subst hw5
  have hs5 : w2.heap.size < w5.heap.size := (Array.getElem?_eq_some_iff.1 HDE.out.box).1
  have hk5 := HDE.out.k.size
  have HB6 := Lib.hid (show Calls Tryz.prog 137 #[.pointer (some ⟨w.heap.size + 1 + 1, 0, none⟩), gv, .int .i64 4] w5 _ from bigraph_any (w.heap.size + 1 + 1) A bs c 20022 4 W0.heap.size gv sig w5 HDE.out.cur (by omega) (by omega) (by omega) HDE.out.sg HDS.out.small HDS.out.ports)
  go_wp2_with fail
  (with_reducible refine HB6.out.mono ?_)
  rintro e w6 ⟨nvB, svB, ovB, ivB, gB, rfl, hr6, hsm6, hC6, hK6⟩
  have hs6 := hK6.size
  obtain ⟨wB, hwB, hbB, hsB, hxB⟩ := laid1 w6 (.cells #[.int .i64 gB.roots, nvB, svB, .int .i64 gB.edges, ovB, ivB] 31)
  have HKB := Lib.hid (show Kept (fun q => q = w.heap.size + 1 + 1 ∨ w5.heap.size ≤ q) w5 wB from (hK6.mono fun q hq => .inl hq).trans (Kept.of_below hbB _))
  have HRB := Lib.hid ((hr6 w6 (Kept.refl _ _)).2.below hbB)
  have HXB := Lib.hid hxB
  have HSMB := Lib.hid hsm6
  have HCB := Lib.hid (hC6.below hbB)
  have HWB := Lib.hid hwB
  have HNB := Lib.hid hr6.now.form
  clear hr6 hsm6 hC6 hK6 HB6 hwB hxB hbB
  obtain ⟨ANB, cNB, ASB, cSB, AOB, cOB, AIB, cIB, rfl, rfl, rfl, rfl⟩ := HNB.out
  clear HNB
  go_upto_region 7 with (rw [← HWB.out])
  go_cut [50] from 9 (fun v wx => ∃ bb : Bool, v = .bool bb ∧ (bb = true → goodG sig gE = true ∧ goodG sig gB = true ∧ 0 < gB.roots ∧ 0 < gE.sites.length) ∧ Cur wx (w.heap.size + 1 + 1) A bs c 40024 ∧ Kept (fun q => q = w.heap.size + 1 + 1 ∨ wB.heap.size ≤ q) wB wx)
  case first =>
    have hdb := HDE.out.later (by omega) (by omega) (by omega) HKB.out HCB.out
    have HRS := Lib.hid (show RSl RCt 3 wB gv sig from ct_rsl hdb.sg HDS.out.small.len)
    have HRA := Lib.hid (hdb.rows.rgr HSME.out)
    have HRBB := Lib.hid (HRB.out.rgr HSMB.out)
    have HXA := Lib.hid hdb.box
    obtain ⟨AG, cG, rfl, _⟩ := HRS.out.form
    have HGA := Lib.hid (l2Good_any sig gE _ _ _ _ _ wB HSME.out HDS.out.small HRS.out HRA.out)
    have HKA := Lib.hid (keepB hdb.box)
    have HKX := Lib.hid (keepB HXB.out)
    have HGB := Lib.hid (fun W (hb : Below wB.heap.size wB W) => l2Good_any sig gB _ _ _ _ _ W HSMB.out HDS.out.small (HRS.out.below RCt_keep hb) (HRBB.out.below hb))
    obtain ⟨xa0, xa1, xa2, xa3, xa4, xa5⟩ := row6 hdb.box
    clear hdb
    cases hga : goodG sig gE
    · have hc := HGA.out
      rw [hga] at hc
      have HC := Lib.hid hc
      clear hc hga
      go_wp2_with fail
      (with_reducible refine HC.out.mono ?_)
      rintro e w7 ⟨rfl, hb7⟩
      have HB7 := Lib.hid hb7
      clear hb7 HC xa0 xa1 xa2 xa3 xa4 xa5
      go_wp2_with fail
      go_meet
      case rel => exact ⟨false, rfl, fun h => (nomatch h), (HCB.out.below HB7.out).mono (by omega), Kept.of_below HB7.out _⟩
    have hc := HGA.out
    rw [hga] at hc
    have HC := Lib.hid hc
    have HGA1 := Lib.hid hga
    clear hc hga
    cases hgb : goodG sig gB
    · have HGB1 := Lib.hid hgb
      clear hgb
      go_wp2_with fail
      (with_reducible refine HC.out.mono ?_)
      rintro e w7 ⟨rfl, hb7⟩
      have HB7 := Lib.hid hb7
      clear hb7 HC xa0 xa1 xa2 xa3 xa4 xa5
      have hc := HGB.out w7 HB7.out
      rw [HGB1.out] at hc
      have HC := Lib.hid hc
      clear hc
      obtain ⟨xb0, xb1, xb2, xb3, xb4, xb5⟩ := row6 (HKX.out w7 HB7.out)
      go_wp2_with fail
      (with_reducible refine HC.out.mono ?_)
      rintro e w8 ⟨rfl, hb8⟩
      have HB8 := Lib.hid (HB7.out.trans (hb8.mono HB7.out.size))
      clear hb8 HC xb0 xb1 xb2 xb3 xb4 xb5
      go_wp2_with fail
      go_meet
      case rel => exact ⟨false, rfl, fun h => (nomatch h), (HCB.out.below HB8.out).mono (by omega), Kept.of_below HB8.out _⟩
    have HGB1 := Lib.hid hgb
    clear hgb
    go_wp2_with fail
    (with_reducible refine HC.out.mono ?_)
    rintro e w7 ⟨rfl, hb7⟩
    have HB7 := Lib.hid hb7
    clear hb7 HC xa0 xa1 xa2 xa3 xa4 xa5
    have hc := HGB.out w7 HB7.out
    rw [HGB1.out] at hc
    have HC := Lib.hid hc
    clear hc
    obtain ⟨xb0, xb1, xb2, xb3, xb4, xb5⟩ := row6 (HKX.out w7 HB7.out)
    go_wp2_with fail
    (with_reducible refine HC.out.mono ?_)
    rintro e w8 ⟨rfl, hb8⟩
    have HB8 := Lib.hid (HB7.out.trans (hb8.mono HB7.out.size))
    clear hb8 HC xb0 xb1 xb2 xb3 xb4 xb5
    obtain ⟨xa0, xa1, xa2, xa3, xa4, xa5⟩ := row6 (HKA.out w8 HB8.out)
    obtain ⟨xb0, xb1, xb2, xb3, xb4, xb5⟩ := row6 (HKX.out w8 HB8.out)
    by_cases hro : 0 < gB.roots
    · by_cases hsi : 0 < gE.sites.length
      · have hsi2 : (0 : Int) < (gE.sites.length : Int) := by omega
        have HON := Lib.hid (one_any (w.heap.size + 1 + 1) A bs c 40022 8 w8 ((HCB.out.below HB8.out).mono (by omega)) (by omega) (by omega))
        have HRO := Lib.hid hro
        have HSI := Lib.hid hsi
        go_wp2_with fail
        (with_reducible refine HON.out.mono ?_)
        rintro e w9 ⟨b2, rfl, hC9, hK9⟩
        have HC9 := Lib.hid hC9
        have HK9 := Lib.hid hK9
        clear hC9 hK9 HON xa0 xa1 xa2 xa3 xa4 xa5 xb0 xb1 xb2 xb3 xb4 xb5
        cases b2
        · go_wp2_with fail
          go_meet
          case rel => exact ⟨true, rfl, fun _ => ⟨HGA1.out, HGB1.out, HRO.out, HSI.out⟩, HC9.out, (Kept.of_below HB8.out _).trans (HK9.out.mono fun q hq => .inl hq)⟩
        go_wp2_with fail
        go_meet
        case rel => exact ⟨false, rfl, fun h => (nomatch h), HC9.out, (Kept.of_below HB8.out _).trans (HK9.out.mono fun q hq => .inl hq)⟩
      have hsi2 : ¬ ((0 : Int) < (gE.sites.length : Int)) := by omega
      go_wp2_with fail
      go_meet
      case rel => exact ⟨false, rfl, fun h => (nomatch h), (HCB.out.below HB8.out).mono (by omega), Kept.of_below HB8.out _⟩
    go_wp2_with fail
    go_meet
    case rel => exact ⟨false, rfl, fun h => (nomatch h), (HCB.out.below HB8.out).mono (by omega), Kept.of_below HB8.out _⟩
  obtain ⟨bb, rfl, himp, hcu, hkc⟩ := hcut
  obtain ⟨w9, hw9⟩ : ∃ w9, w9 = wc := ⟨_, rfl⟩
  subst hw9
  have HIMP := Lib.hid himp
  have HK9 := Lib.hid (kept_later HKB.out hkc (fun q hq => by have := HKB.out.size; rcases hq with hq | hq; exact .inl hq; exact .inr (by omega)))
  have HR9 := Lib.hid (HRB.out.kept hkc (fun q hq => by rcases hq with hq | hq; exact .inl (by omega); exact .inr (.inl hq)))
  have HX9 := Lib.hid (kept_box HXB.out (by omega) hkc)
  have HC9 := Lib.hid hcu
  have hs9 := hkc.size
  clear himp hcu hkc HRB HXB HCB HWB
  go_upto_if 50 with fail
  go_cut [] from 9 (fun wx => ∃ (nvF svF ovF ivF : Value) (gF : Gr), SmallG gF ∧ wx.heap[w6.heap.size]? = some (.cells #[.int .i64 gF.roots, nvF, svF, .int .i64 gF.edges, ovF, ivF] 31) ∧ RowsG w5.heap.size wx nvF svF ovF ivF gF ∧ Kept (fun q => q = w.heap.size + 1 + 1 ∨ w5.heap.size ≤ q) w5 wx)
  case first =>
    cases bb
    · go_wp2_with fail
      go_meet
      case rel => exact ⟨_, _, _, _, gB, HSMB.out, HX9.out, HR9.out, HK9.out⟩
    obtain ⟨hga, hgb, hro, hsi⟩ := HIMP.out rfl
    have HGDB := Lib.hid ((good_iff sig gB).1 hgb)
    obtain ⟨R, hR⟩ : ∃ R : Nat, gB.roots = (R : Int) := ⟨gB.roots.toNat, by omega⟩
    obtain ⟨m, hm⟩ : ∃ m, m = gE.sites.length := ⟨_, rfl⟩
    have hR4 : R ≤ 4 := by have := HGDB.out.r; omega
    have hm0 : 0 < m := by omega
    have hm4 : m ≤ 4 := by have := ((good_iff sig gE).1 hga).s4; omega
    have HXAF := Lib.hid (show ∀ W, Kept (fun q => q = w.heap.size + 1 + 1 ∨ w5.heap.size ≤ q) w5 W → W.heap[w2.heap.size]? = some (.cells #[.int .i64 gE.roots, .slice ANA gE.nodes.length cNA, .slice ASA gE.sites.length cSA, .int .i64 gE.edges, .slice AOA gE.outer.length cOA, .slice A9 gE.inner.length c9] 31) from fun W hk => kept_box HDE.out.box (by omega) hk)
    have HME := Lib.hid hm
    have HRE := Lib.hid hR
    clear hga hgb hro hsi hR hm
    obtain ⟨wa, hwa, hba, hsa, -⟩ := laid1 w9 (.cells #[] 3)
    have HOA := Lib.hid (show wa.ownsRow w9.heap.size 3 1 (.slice (some ⟨w9.heap.size, 0, none⟩) 0 0) 0 [] from by rw [hwa]; exact made_rowG w9 3)
    have HBA := Lib.hid hba
    have HWA := Lib.hid hwa
    clear hwa hba
    go_wp2_with (rw [← HWA.out])
    go_loopw [9, 10] (fun u i wr => ∃ k : Nat, k ≤ R ∧ i = .int .i64 k ∧ wr.ownsRow w9.heap.size 3 1 u k (ints (rootsD m k)) ∧ Below w9.heap.size w9 wr)
      (fun _ i _ => R - (intOf i).toNat)
    case atStart => exact ⟨0, Nat.zero_le _, rfl, HOA.out, HBA.out⟩
    obtain ⟨k, hk, rfl, hown, hb⟩ := hrel
    have hkw := kept_later HK9.out (Kept.of_below hb (fun _ => False)) (fun q h => h.elim)
    obtain ⟨xa0, xa1, xa2, xa3, xa4, xa5⟩ := row6 (HXAF.out wr hkw)
    obtain ⟨xb0, xb1, xb2, xb3, xb4, xb5⟩ := row6 ((hb.block _ (Array.getElem?_eq_some_iff.1 HX9.out).1).trans HX9.out)
    rw [HRE.out] at xb0
    rw [← HME.out] at xa2
    have HO := Lib.hid hown
    have HB := Lib.hid hb
    have hsr := hb.size
    clear hown hb hkw
    by_cases hlt : k < R
    · have hki : (k : Int) < (R : Int) := by omega
      have hmz : ((m : Int) == 0) = false := by rw [beq_eq_false_iff_ne]; omega
      have hmz2 : (m : Int) ≠ 0 := by omega
      have hrem : Int.tmod (k : Int) (m : Int) = ((k % m : Nat) : Int) := by rw [Int.tmod_eq_emod_of_nonneg (by omega)]; rfl
      have hrl := Nat.mod_lt k hm0
      go_wp2_with (at_builtin; refine wpList_app el_intG rfl _ _ rfl w9.heap.size _ _ _ rfl HO.out [.int .i64 (-1 - ((k % m : Nat) : Int))] rfl rfl rfl (one1 rfl) (by omega) (by omega) ?_; intro v3 w3' ho3 hk3 hm3)
      have HO3 := Lib.hid (show w3'.ownsRow w9.heap.size 3 1 v3 (k + 1) (ints (rootsD m (k + 1))) from by rw [rootsD_next]; exact ho3)
      have HB3 := Lib.hid (HB.out.trans (hk3.below (fun q hq => by have := (HO.out.lt q hq).1; omega) (by omega)))
      clear ho3 hk3 hm3 xa0 xa1 xa2 xa3 xa4 xa5 xb0 xb1 xb2 xb3 xb4 xb5
      go_wp2_with fail
      go_roundw
      case rel => exact ⟨k + 1, by omega, by go_num, HO3.out, HB3.out⟩
      case measure => simp [intOf]; omega
    obtain rfl : k = R := by omega
    obtain ⟨A7, c7, rfl, ho7⟩ := owns_form HO.out
    obtain ⟨w10, hw10⟩ : ∃ w10, w10 = wr := ⟨_, rfl⟩
    subst hw10
    obtain ⟨ro, hro⟩ : ∃ ro, ro = rootsD m k := ⟨_, rfl⟩
    have hrl : ro.length = k := by rw [hro, rootsD_len]
    have HRO := Lib.hid hro
    have HCR := Lib.hid (show ∀ W, Below w10.heap.size w10 W → Cells W A7 (ints ro) from fun W hb => by rw [hro]; exact (Cells.of_owns ho7).below hb)
    have HK10 := Lib.hid (kept_later HK9.out (Kept.of_below HB.out (fun _ => False)) (fun q h => h.elim))
    have HR10 := Lib.hid (HR9.out.kept (Kept.of_below HB.out (fun _ => False)) (fun q h => h.elim))
    have HX10 := Lib.hid ((HB.out.block _ (Array.getElem?_eq_some_iff.1 HX9.out).1).trans HX9.out)
    have HC10 := Lib.hid (HC9.out.below HB.out)
    obtain ⟨ns, hns⟩ : ∃ ns, ns = gB.nodes := ⟨_, rfl⟩
    have HNS := Lib.hid hns
    obtain ⟨f, hf⟩ : ∃ f, f = parentS 0 ro := ⟨_, rfl⟩
    have HF := Lib.hid hf
    have HPB := Lib.hid (good_nodes HGDB.out HRE.out)
    have HO7 := Lib.hid ho7
    have HPN := Lib.hid (fun q (hq : (Value.slice ANB gB.nodes.length cNB).ownBlock = some q) => HR9.out.own_lt hq)
    have HPX := Lib.hid (HR10.out.own_box HX10.out)
    have HRC := Lib.hid (show ∀ W, Kept (fun q => (Value.slice ANB gB.nodes.length cNB).ownBlock = some q) w10 W → Cells W A7 (ints ro) from fun W hk => by rw [hro]; exact Cells.of_owns (ownsK ho7 hk (fun q hq e => by have := (ho7.lt q hq).1; have := (HPN.out q e).2; omega)))
    have HXF := Lib.hid (show ∀ W, Kept (fun q => (Value.slice ANB gB.nodes.length cNB).ownBlock = some q) w10 W → W.heap[w6.heap.size]? = some (.cells #[.int .i64 gB.roots, .slice ANB gB.nodes.length cNB, .slice ASB gB.sites.length cSB, .int .i64 gB.edges, .slice AOB gB.outer.length cOB, .slice AIB gB.inner.length cIB] 31) from fun W hk => (hk.block _ (Array.getElem?_eq_some_iff.1 HX10.out).1 HPX.out).trans HX10.out)
    have HRS := Lib.hid (show RowsG w5.heap.size w10 (.slice ANB gB.nodes.length cNB) (.slice ASB gB.sites.length cSB) (.slice AOB gB.outer.length cOB) (.slice AIB gB.inner.length cIB) { gB with nodes := turnP f ns 0 } from by rw [turnP_zero, hns]; exact HR10.out)
    clear ho7 hro hns hf HO HB HOA HBA HWA
    have hnl : ns.length ≤ 8 := by rw [HNS.out]; exact HGDB.out.n8
    go_wp2_with fail
    clear xa0 xa1 xa2 xa3 xa4 xa5 xb0 xb1 xb2 xb3 xb4 xb5
    go_loopw [11] (fun i wr => ∃ j : Nat, j ≤ ns.length ∧ i = .int .i64 j ∧ RowsG w5.heap.size wr (.slice ANB gB.nodes.length cNB) (.slice ASB gB.sites.length cSB) (.slice AOB gB.outer.length cOB) (.slice AIB gB.inner.length cIB) { gB with nodes := turnP f ns j } ∧ Kept (fun q => (Value.slice ANB gB.nodes.length cNB).ownBlock = some q) w10 wr)
      (fun i _ => ns.length - (intOf i).toNat)
    case atStart => exact ⟨0, Nat.zero_le _, rfl, HRS.out, Kept.refl _ _⟩
    clear HRS
    obtain ⟨j, hj, rfl, hrw, hkw⟩ := hrel
    have HRJ := Lib.hid hrw
    have HKJ := Lib.hid hkw
    have hxj := HXF.out wr hkw
    have HXJ := Lib.hid (keepB hxj)
    obtain ⟨xb0, xb1, xb2, xb3, xb4, xb5⟩ := row6 hxj
    have hne := HNS.out
    clear hrw hkw hxj
    by_cases hlt : j < ns.length
    · obtain ⟨gn, cc, e, -, -, -, hgw⟩ := HRJ.out.par_cells hlt
      have b0 : (0 : Int) ≤ (j : Int) := by omega
      have b1 : (j : Int) < (gB.nodes.length : Int) := by rw [← hne]; omega
      obtain ⟨y, hy⟩ : ∃ y, y = ns[j].2.1 := ⟨_, rfl⟩
      have HY := Lib.hid hy
      have HYB := Lib.hid (HPB.out ns[j] (by rw [← hne]; exact List.getElem_mem hlt))
      have hsn : Value.slice ANB gB.nodes.length cNB = .slice (some ⟨gn, 0, none⟩) gB.nodes.length cc := by rw [e, hne]
      injection hsn with e1 _ e3
      subst e1
      subst e3
      have HLT := Lib.hid hlt
      have HC1 := Lib.hid (HRC.out wr HKJ.out)
      clear e hy hne
      go_wp2_with fail
      clear xb0 xb1 xb2 xb3 xb4 xb5
      refine wp_region_w (by kernel_rfl) [some 74, some 75, some 76, some 77, some 78, some 79, some 80, some 81, some 82, some 83, some 84, some 85, some 86, none] [13] (fun q v W => match q with | 0 => v = .pointer (some ⟨w6.heap.size, 1, none⟩) | 1 => v = .slice (some ⟨gn, 0, none⟩) gB.nodes.length cNB | 2 => v = .int .i64 (j : Int) | 3 => v = .pointer (some ⟨w6.heap.size, 1, none⟩) | 4 => v = .slice (some ⟨gn, 0, none⟩) gB.nodes.length cNB | 5 => v = .int .i64 (j : Int) | 6 => v = .pointer (some ⟨gn, j * 3, none⟩) | 7 => v = .pointer (some ⟨gn, j * 3 + 1, none⟩) | 8 => v = .int .i64 y | 9 => v = .slice A7 k c7 | 10 => v = .int .i64 (parentS 0 ro y) | 11 => v = .pointer (some ⟨gn, j * 3, none⟩) | 12 => v = .pointer (some ⟨gn, j * 3 + 1, none⟩) | _ => True) (fun l W => match l with | [false] => Below wr.heap.size wr W | _ => ∃ W1, Below wr.heap.size wr W1 ∧ W = W1.setCell ⟨gn, j * 3 + 1, none⟩ (.int .i64 (parentS 0 ro y))) (by kernel_rfl) (by kernel_rfl) ?m1o ((Below.refl _ _).drew) ?s1t ?f1i
      case m1o =>
       intro q v W W' hb h
       match q, h with
       | 0, h | 1, h | 2, h | 3, h | 4, h | 5, h | 6, h | 7, h | 8, h | 9, h | 10, h | 11, h | 12, h | 13, h => exact h
       | q + 14, _ => trivial
      case s1t =>
       as_aux_lemma =>
        intro L act W q o h ho K3 hS hK
        match q, ho with
        | 0, ho | 3, ho =>
         cases ho
         have a8 : act.tmps[8]? = some _ := h.out 8 (by decide)
         clear h hK
         go_simp
         exact hS rfl _ rfl
        | 1, ho =>
         cases ho
         have v0 := h.val 0 rfl rfl fun _ h => h
         have hD := h.d
         have hn1 := h.off 1 (by kernel_rfl)
         have hn13 := h.off 13 (by kernel_rfl)
         simp only [List.map_cons, List.map_nil, hn13] at hD
         obtain ⟨xb0, xb1, xb2, xb3, xb4, xb5⟩ := row6 (HXJ.out W hD)
         have HD := Lib.hid hD
         clear hD
         clear h hK
         go_simp
         exact hS rfl _ rfl
        | 2, ho | 5, ho =>
         cases ho
         have a11 : act.tmps[11]? = some _ := h.out 11 (by decide)
         clear h hK
         go_simp
         exact hS rfl _ rfl
        | 4, ho =>
         cases ho
         have v3 := h.val 3 rfl rfl fun _ h => h
         have hD := h.d
         have hn4 := h.off 4 (by kernel_rfl)
         have hn13 := h.off 13 (by kernel_rfl)
         simp only [List.map_cons, List.map_nil, hn13] at hD
         obtain ⟨xb0, xb1, xb2, xb3, xb4, xb5⟩ := row6 (HXJ.out W hD)
         have HD := Lib.hid hD
         clear hD
         clear h hK
         go_simp
         exact hS rfl _ rfl
        | 6, ho =>
         cases ho
         have v4 := h.val 4 rfl rfl fun _ h => h
         have v5 := h.val 5 rfl rfl fun _ h => h
         clear h hK
         go_simp
         exact hS rfl _ rfl
        | 7, ho =>
         cases ho
         have v6 := h.val 6 rfl rfl fun _ h => h
         clear h hK
         go_simp
         exact hS rfl _ rfl
        | 8, ho =>
         cases ho
         have v7 := h.val 7 rfl rfl fun _ h => h
         have hD := h.d
         have hn8 := h.off 8 (by kernel_rfl)
         have hn13 := h.off 13 (by kernel_rfl)
         simp only [List.map_cons, List.map_nil, hn13] at hD
         obtain ⟨hcy, _⟩ := (HRJ.out.below hD).par_at HLT.out rfl
         rw [← HY.out] at hcy
         have HD := Lib.hid hD
         clear hD
         clear h hK
         go_simp
         exact hS rfl _ rfl
        | 9, ho =>
         cases ho
         have a9 : act.tmps[9]? = some _ := h.out 9 (by decide)
         clear h hK
         go_simp
         exact hS rfl _ rfl
        | 10, ho =>
         cases ho
         have v8 := h.val 8 rfl rfl fun _ h => h
         have v9 := h.val 9 rfl rfl fun _ h => h
         have hD := h.d
         have hn10 := h.off 10 (by kernel_rfl)
         have hn13 := h.off 13 (by kernel_rfl)
         simp only [List.map_cons, List.map_nil, hn13] at hD
         have HD := Lib.hid hD
         clear hD
         clear h hS
         go_simp
         go_at_call 164
         refine ((by have h := l4Parent_any y 0 A7 c7 ro W (by have := HYB.out.1; rw [HY.out]; exact this) (by decide) (by rw [HY.out, hrl]; exact HYB.out.2) (by have := HC1.out.below HD.out; exact this); rw [hrl] at h; exact h : Calls _ _ _ _ _)).mono ?_
         rintro e W' ⟨rfl, rfl⟩
         go_simp
         exact hK _ _ (Kept.refl _ _) (rfl) ((by simp only [List.map_cons, List.map_nil, upd, hn13]; exact HD.out))
        | 11, ho =>
         cases ho
         have v1 := h.val 1 rfl rfl fun _ h => h
         have v2 := h.val 2 rfl rfl fun _ h => h
         clear h hK
         go_simp
         exact hS rfl _ rfl
        | 12, ho =>
         cases ho
         have v11 := h.val 11 rfl rfl fun _ h => h
         clear h hK
         go_simp
         exact hS rfl _ rfl
        | 13, ho =>
         cases ho
         have v12 := h.val 12 rfl rfl fun _ h => h
         have v10 := h.val 10 rfl rfl fun _ h => h
         have hD := h.d
         have hn13 := h.off 13 (by kernel_rfl)
         have hn13 := h.off 13 (by kernel_rfl)
         simp only [List.map_cons, List.map_nil, hn13] at hD
         obtain ⟨hcy, hfy⟩ := (HRJ.out.below hD).par_at HLT.out rfl
         have HD := Lib.hid hD
         have HNO := Lib.hid (show upd L 13 13 = true from upd_same _ _)
         clear hD hn13
         clear h hS
         go_simp
         refine hK undef _ ?_ trivial ?_
         · exact (Kept.refl _ _).setCell (p := ⟨gn, j * 3 + 1, none⟩) (show gn < wr.heap.size by omega) _
         simp only [List.map_cons, List.map_nil, HNO.out]
         exact ⟨W, HD.out, rfl⟩
        | q + 14, ho => simp at ho
      intro V W hsW HD0 hV
      have v0 : V 0 = _ := hV 0 74 rfl
      have v1 : V 1 = _ := hV 1 75 rfl
      have v2 : V 2 = _ := hV 2 76 rfl
      have v3 : V 3 = _ := hV 3 77 rfl
      have v4 : V 4 = _ := hV 4 78 rfl
      have v5 : V 5 = _ := hV 5 79 rfl
      have v6 : V 6 = _ := hV 6 80 rfl
      have v7 : V 7 = _ := hV 7 81 rfl
      have v8 : V 8 = _ := hV 8 82 rfl
      have v9 : V 9 = _ := hV 9 83 rfl
      have v10 : V 10 = _ := hV 10 84 rfl
      have v11 : V 11 = _ := hV 11 85 rfl
      have v12 : V 12 = _ := hV 12 86 rfl
      clear hV
      simp only [layV, List.setIfInBounds_toArray, List.set_cons_zero, List.set_cons_succ, v0, v1, v2, v3, v4, v5, v6, v7, v8, v9, v10, v11, v12]
      clear v0 v1 v2 v3 v4 v5 v6 v7 v8 v9 v10 v11 v12
      obtain ⟨W1, hb1, rfl⟩ := HD0
      have HRN := Lib.hid ((HRJ.out.below hb1).par HLT.out (by rw [← HNS.out]))
      have HKN := Lib.hid ((HKJ.out.trans (Kept.of_below hb1 _)).setCell (p := ⟨gn, j * 3 + 1, none⟩) rfl (.int .i64 (parentS 0 ro y)))
      have hlt := HLT.out
      rw [show f ns[j].2.1 = parentS 0 ro y from by rw [HF.out, HY.out]] at HRN
      clear hb1
      obtain ⟨w12, hw12⟩ : ∃ w12, w12 = W1.setCell ⟨gn, j * 3 + 1, none⟩ (.int .i64 (parentS 0 ro y)) := ⟨_, rfl⟩
      rw [← hw12] at HRN HKN ⊢
      clear hw12
      go_wp2_with fail
      go_roundw
      case rel => exact ⟨j + 1, by omega, by go_num, HRN.out, HKN.out⟩
      case measure => simp [intOf]; omega
    obtain rfl : ns.length = j := by omega
    obtain ⟨w11, hw11⟩ : ∃ w11, w11 = wr := ⟨_, rfl⟩
    subst hw11
    obtain ⟨gT, hgT⟩ : ∃ gT, gT = { gB with nodes := turnP f ns ns.length } := ⟨_, rfl⟩
    have hsT : SmallG gT := by
      rw [hgT]
      exact { HSMB.out with nodes := by show (turnP f ns ns.length).length ≤ 1000; rw [turnP_len]; omega, links := fun x hx => by rw [show ({ gB with nodes := turnP f ns ns.length } : Gr).nodes = turnP f ns ns.length from rfl, turnP_all] at hx; obtain ⟨z, hz, rfl⟩ := List.mem_map.1 hx; exact HSMB.out.links z (by rw [← HNS.out]; exact hz), pars := fun x hx => by rw [show ({ gB with nodes := turnP f ns ns.length } : Gr).nodes = turnP f ns ns.length from rfl, turnP_all] at hx; obtain ⟨z, hz, rfl⟩ := List.mem_map.1 hx; show -9223372036854775808 ≤ f z.2.1; rw [HF.out, HRO.out]; exact parent_low hm0 (by omega) (HSMB.out.pars z (by rw [← HNS.out]; exact hz)) }
    have hrT := HRJ.out
    rw [← hgT] at hrT
    obtain ⟨sB, hsB⟩ : ∃ sB, sB = gB.sites.map (parentS 0 ro) := ⟨_, rfl⟩
    have HSB := Lib.hid hsB
    have HGT := Lib.hid hgT
    have HRT := Lib.hid hrT
    have HCS := Lib.hid (show Calls Tryz.prog 165 #[.agg #[.int .i64 gB.roots, .slice ANB gB.nodes.length cNB, .slice ASB gB.sites.length cSB, .int .i64 gB.edges, .slice AOB gB.outer.length cOB, .slice AIB gB.inner.length cIB], .int .i64 0, .slice A7 k c7] w11 (fun e w' => ∃ A c, e = .returned (.slice A sB.length c) ∧ w'.ownsRow w11.heap.size 3 1 (.slice A sB.length c) sB.length (ints sB) ∧ Below w11.heap.size w11 w') from by
      have h := l4Sites_n gT _ _ _ _ 0 A7 c7 ro w11 hsT (by decide) (by rw [hgT, hrl]; exact good_sites HGDB.out HRE.out) (HRC.out w11 HKJ.out) (hrT.rgr hsT)
      rw [hrl] at h
      subst hgT
      subst hsB
      exact h)
    clear hgT hrT hsB
    go_wp2_with fail
    (with_reducible refine HCS.out.mono ?_)
    rintro e w12 ⟨A8, c8, rfl, ho8, hb8⟩
    have hx12 := HXJ.out w12 hb8
    obtain ⟨z0, z1, z2, z3, z4, z5, f0, f1, f2, f3, f4, f5⟩ := row6f hx12
    have HXA12 := Lib.hid (HXAF.out w12 (kept_later (kept_later HK10.out HKJ.out (fun q hq => by have := HPN.out q hq; omega)) (Kept.of_below hb8 (fun _ => False)) (fun q h => h.elim)))
    obtain ⟨xa0, xa1, xa2, xa3, xa4, xa5⟩ := row6 HXA12.out
    rw [← HME.out] at xa2
    have HX12 := Lib.hid hx12
    have HO8 := Lib.hid ho8
    have HB8 := Lib.hid hb8
    have hs12 := hb8.size
    have hs11 := HKJ.out.size
    have hs10 := HK10.out.size
    have hp6 := (Array.getElem?_eq_some_iff.1 HX12.out).1
    clear hx12 ho8 hb8 HCS xb0 xb1 xb2 xb3 xb4 xb5
    go_wp2_with fail
    go_meet
    case rel =>
      have e2 := heap_setCell_same w12 w6.heap.size 2 _ _ (.slice A8 sB.length c8) HX12.out
      have e0 := heap_setCell_same _ w6.heap.size 0 _ _ (.int .i64 (m : Int)) e2
      have hK : Kept (fun q => q = w6.heap.size) w12 ((w12.setCell ⟨w6.heap.size, 2, none⟩ (.slice A8 sB.length c8)).setCell ⟨w6.heap.size, 0, none⟩ (.int .i64 (m : Int))) := ((Kept.refl (fun q => q = w6.heap.size) w12).setCell (p := ⟨w6.heap.size, 2, none⟩) rfl _).setCell (p := ⟨w6.heap.size, 0, none⟩) rfl _
      have hr := (HRT.out.below HB8.out).kept hK (fun q hq => .inr (.inr (by subst hq; exact ⟨_, HX12.out⟩)))
      have ho := ownsK HO8.out hK (fun q hq e => by subst e; exact ownsT HO8.out HX12.out (by decide) hq)
      have hr2 := hr.sites (r := (m : Int)) (owns_mono ho (by have := HK10.out.size; omega))
      have hgF : ({ gT with roots := (m : Int), sites := sB } : Gr) = ⟨(m : Int), gB.nodes.map (fun x => (x.1, parentS 0 (rootsD m k) x.2.1, x.2.2)), gB.sites.map (parentS 0 (rootsD m k)), gB.edges, gB.outer, gB.inner⟩ := by
        rw [HGT.out, HSB.out, turnP_all, HF.out, HRO.out, HNS.out]
      refine ⟨.slice ANB gB.nodes.length cNB, .slice A8 sB.length c8, .slice AOB gB.outer.length cOB, .slice AIB gB.inner.length cIB, { gT with roots := (m : Int), sites := sB }, by rw [hgF]; exact nested_small HSMB.out hm0 (by omega), ?_, hr2, ?_⟩
      · rw [HGT.out]
        exact e0
      exact kept_later (kept_later (kept_later HK10.out HKJ.out (fun q hq => by have := HPN.out q hq; omega)) (Kept.of_below HB8.out (fun _ => False)) (fun q h => h.elim)) hK (fun q hq => by omega)
  obtain ⟨nvF, svF, ovF, ivF, gF, hsmF, hxF, hrF, hkF⟩ := hcut
  obtain ⟨wt, hwt⟩ : ∃ wt, wt = wc := ⟨_, rfl⟩
  subst hwt
  have hgF := hrF.rgr hsmF
  obtain ⟨ANF, cNF, ASF, cSF, AOF, cOF, AIF, cIF, rfl, rfl, rfl, rfl⟩ := hgF.form
  have hgA := (HDE.out.rows.kept hkF (fun q hq => by rcases hq with hq | hq; exact .inl (by omega); exact .inr (.inl hq))).rgr HSME.out
  have hsg := ownsK HDE.out.sg hkF (fun q hq e => by have := HDE.out.sg.lt q hq; omega)
  have hxA := kept_box HDE.out.box (by omega) hkF
  have hk0 : Kept (fun q => q = w.heap.size + 1 + 1) W0 wt := kept_newer HDE.out.k hkF (fun q hq => by rcases hq with hq | hq; exact .inl hq; exact .inr (by omega))
  have hr1 := (hk0.block (w.heap.size) (by omega) (by omega)).trans HX0.out
  have hr2 := (hk0.block (w.heap.size + 1) (by omega) (by omega)).trans HX1.out
  have HGF := Lib.hid (show ∀ W, Kept (fun q => q = w.heap.size ∨ q = w.heap.size + 1) wt W → RGr W _ _ _ _ gF ∧ RGr W _ _ _ _ gE ∧ RSl RCt 3 W gv sig ∧ CapOk gv from fun W hk =>
    ⟨(hrF.kept hk (fun q hq => by omega)).rgr hsmF, ((HDE.out.rows.kept hkF (fun q hq => by rcases hq with hq | hq; exact .inl (by omega); exact .inr (.inl hq))).kept hk (fun q hq => by omega)).rgr HSME.out, ct_rsl (ownsK hsg hk (fun q hq e => by have := hsg.lt q hq; omega)) HDS.out.small.len, owns_capOk hsg⟩)
  have HPA := Lib.hid (show ∀ W, Kept (fun q => q = w.heap.size ∨ q = w.heap.size + 1) wt W → W.heap[w2.heap.size]? = _ from fun W hk => (hk.block _ (Array.getElem?_eq_some_iff.1 hxA).1 (by omega)).trans hxA)
  have HPF := Lib.hid (show ∀ W, Kept (fun q => q = w.heap.size ∨ q = w.heap.size + 1) wt W → W.heap[w6.heap.size]? = _ from fun W hk => (hk.block _ (Array.getElem?_eq_some_iff.1 hxF).1 (by omega)).trans hxF)
  have HR1 := Lib.hid hr1
  have HR2 := Lib.hid hr2
  have HSMF := Lib.hid hsmF
  have HBT := Lib.hid (show Below w.heap.size w wt from (HB0.out.trans (((hk0.below (B := w.heap.size) (fun q hq => by omega) (by omega))))))
  have hst := hk0.size
  clear hsmF hxF hrF hkF hgF hgA hsg hxA hk0 hr1 hr2
  go_wp2_with fail
  refine wp_region_w (by kernel_rfl) [some 95, some 96, some 97, some 2, none, none] [4, 5] (fun q v W => match q with | 0 => v = gv | 1 => v = .agg #[.int .i64 gE.roots, .slice ANA gE.nodes.length cNA, .slice ASA gE.sites.length cSA, .int .i64 gE.edges, .slice AOA gE.outer.length cOA, .slice A9 gE.inner.length c9] | 2 => v = .agg #[.int .i64 gF.roots, .slice ANF gF.nodes.length cNF, .slice ASF gF.sites.length cSF, .int .i64 gF.edges, .slice AOF gF.outer.length cOF, .slice AIF gF.inner.length cIF] | 3 => v = gv | _ => True) (fun l W => match l with | [x, y] => Kept (fun q => q = w.heap.size ∨ q = w.heap.size + 1) wt W ∧ W.heap[w.heap.size]? = some (.cells (if x = true then #[.int .i64 gE.roots, .slice ANA gE.nodes.length cNA, .slice ASA gE.sites.length cSA, .int .i64 gE.edges, .slice AOA gE.outer.length cOA, .slice A9 gE.inner.length c9] else #[.int .i64 0, .slice none 0 0, .slice none 0 0, .int .i64 0, .slice none 0 0, .slice none 0 0]) 31) ∧ W.heap[w.heap.size + 1]? = some (.cells (if y = true then #[.int .i64 gF.roots, .slice ANF gF.nodes.length cNF, .slice ASF gF.sites.length cSF, .int .i64 gF.edges, .slice AOF gF.outer.length cOF, .slice AIF gF.inner.length cIF] else #[.int .i64 0, .slice none 0 0, .slice none 0 0, .int .i64 0, .slice none 0 0, .slice none 0 0]) 31) | _ => True) (by kernel_rfl) (by kernel_rfl) ?m2o (⟨(Kept.refl _ wt).drew, HR1.out, HR2.out⟩) ?s2t ?f2i
  case m2o =>
   intro q v W W' hb h
   match q, h with
   | 0, h | 1, h | 2, h | 3, h | 4, h | 5, h => exact h
   | q + 6, _ => trivial
  case s2t =>
   as_aux_lemma =>
    intro L act W q o h ho K3 hS hK
    match q, ho with
    | 0, ho =>
     cases ho
     have a6 : act.tmps[6]? = some _ := h.out 6 (by decide)
     clear h hK
     go_simp
     exact hS rfl _ rfl
    | 1, ho =>
     cases ho
     have a7 : act.tmps[7]? = some _ := h.out 7 (by decide)
     have hD := h.d
     have hx := HPA.out W hD.1
     obtain ⟨xa0, xa1, xa2, xa3, xa4, xa5⟩ := row6 hx
     clear hx
     have HD := Lib.hid hD
     clear hD
     clear h hK
     go_simp
     exact hS rfl _ rfl
    | 2, ho =>
     cases ho
     have a8 : act.tmps[8]? = some _ := h.out 8 (by decide)
     have hD := h.d
     have hx := HPF.out W hD.1
     obtain ⟨xb0, xb1, xb2, xb3, xb4, xb5⟩ := row6 hx
     clear hx
     have HD := Lib.hid hD
     clear hD
     clear h hK
     go_simp
     exact hS rfl _ rfl
    | 3, ho =>
     cases ho
     have v0 := h.val 0 rfl rfl fun _ h => h
     clear h hK
     go_simp
     exact hS rfl _ rfl
    | 4, ho =>
     cases ho
     have a3 : act.tmps[3]? = some _ := h.out 3 (by decide)
     have v1 := h.val 1 rfl rfl fun _ h => h
     have hD := h.d
     have hn4 := h.off 4 (by kernel_rfl)
     have hn4 := h.off 4 (by kernel_rfl)
     simp only [List.map_cons, List.map_nil, hn4] at hD
     obtain ⟨hk, h1, h2⟩ := hD
     rw [if_neg (by decide)] at h1
     obtain ⟨z0, z1, z2, z3, z4, z5, f0, f1, f2, f3, f4, f5⟩ := row6f h1
     have HK := Lib.hid hk
     have H1 := Lib.hid h1
     have H2 := Lib.hid h2
     have hsk := hk.size
     have HE4 := Lib.hid (show upd L 4 4 = true from upd_same _ _)
     have HE5 := Lib.hid (show upd L 4 5 = L 5 from by simp [upd])
     clear hk h1 h2 hn4
     clear h hS
     go_simp
     have hf := set6 (W := W) (R := w.heap.size) H1.out (b0 := (.int .i64 gE.roots)) (b1 := (.slice ANA gE.nodes.length cNA)) (b2 := (.slice ASA gE.sites.length cSA)) (b3 := (.int .i64 gE.edges)) (b4 := (.slice AOA gE.outer.length cOA)) (b5 := (.slice A9 gE.inner.length c9))
     refine hK undef _ (hf.2.mono fun q hq => by omega) trivial ?_
     simp only [List.map_cons, List.map_nil, HE4.out, HE5.out]
     exact ⟨HK.out.trans (hf.2.mono fun q hq => by omega), by rw [if_pos trivial]; exact hf.1, (hf.2.block _ (Array.getElem?_eq_some_iff.1 H2.out).1 (by omega)).trans H2.out⟩
    | 5, ho =>
     cases ho
     have a4 : act.tmps[4]? = some _ := h.out 4 (by decide)
     have v2 := h.val 2 rfl rfl fun _ h => h
     have hD := h.d
     have hn5 := h.off 5 (by kernel_rfl)
     have hn5 := h.off 5 (by kernel_rfl)
     simp only [List.map_cons, List.map_nil, hn5] at hD
     obtain ⟨hk, h1, h2⟩ := hD
     rw [if_neg (by decide)] at h2
     obtain ⟨z0, z1, z2, z3, z4, z5, f0, f1, f2, f3, f4, f5⟩ := row6f h2
     have HK := Lib.hid hk
     have H1 := Lib.hid h1
     have H2 := Lib.hid h2
     have hsk := hk.size
     have HE4 := Lib.hid (show upd L 5 4 = L 4 from by simp [upd])
     have HE5 := Lib.hid (show upd L 5 5 = true from upd_same _ _)
     clear hk h1 h2 hn5
     clear h hS
     go_simp
     have hf := set6 (W := W) (R := w.heap.size + 1) H2.out (b0 := (.int .i64 gF.roots)) (b1 := (.slice ANF gF.nodes.length cNF)) (b2 := (.slice ASF gF.sites.length cSF)) (b3 := (.int .i64 gF.edges)) (b4 := (.slice AOF gF.outer.length cOF)) (b5 := (.slice AIF gF.inner.length cIF))
     refine hK undef _ (hf.2.mono fun q hq => by omega) trivial ?_
     simp only [List.map_cons, List.map_nil, HE4.out, HE5.out]
     exact ⟨HK.out.trans (hf.2.mono fun q hq => by omega), (hf.2.block _ (Array.getElem?_eq_some_iff.1 H1.out).1 (by omega)).trans H1.out, by rw [if_pos trivial]; exact hf.1⟩
    | q + 6, ho => simp at ho
  intro V W hsW HD0 hV
  have v0 : V 0 = _ := hV 0 95 rfl
  have v1 : V 1 = _ := hV 1 96 rfl
  have v2 : V 2 = _ := hV 2 97 rfl
  have v3 : V 3 = _ := hV 3 2 rfl
  clear hV
  simp only [layV, List.setIfInBounds_toArray, List.set_cons_zero, List.set_cons_succ, v0, v1, v2, v3]
  clear v0 v1 v2 v3
  obtain ⟨hk, h1, h2⟩ := HD0
  rw [if_pos (by decide)] at h1 h2
  obtain ⟨q1, q2, q3, q4⟩ := HGF.out W hk
  have HH1 := Lib.hid h1
  have HH2 := Lib.hid h2
  have HQ1 := Lib.hid q1
  have HQ2 := Lib.hid q2
  have HQ3 := Lib.hid q3
  have HQ4 := Lib.hid q4
  have HBE := Lib.hid (HBT.out.trans (hk.below (fun q hq => by omega) HBT.out.size))
  clear hk h1 h2 q1 q2 q3 q4
  go_wp2_with fail
  (try simp only [Exit.inBlock, Exit.then])
  refine bodyPost_ret (results_two rfl _ _ (w.heap.size) (w.heap.size + 1) _ _ _ _ _ _ rfl rfl HH1.out HH2.out Tryz.underlying31 rfl (by kernel_rfl) (by kernel_rfl)) rfl ?_
  exact ⟨gv, sig, _, _, _, _, _, _, _, _, _, _, _, _, _, _, _, _, gE, gF, rfl, HDS.out.small, HQ4.out, HQ3.out, HSME.out, HQ2.out, HSMF.out, HQ1.out, HBE.out⟩

end Go.Proofs.YtijkdpdmclkmlaaGreatDoor
