/- A bigraph in new memory: the program's ownBigraph walked. -/
import Derived.Test.YtijkdpdmclkmlaaGreatDoorProg
import Derived.Test.YtijkdpdmclkmlaaGreatDoorJ0
import Derived.Test.YtijkdpdmclkmlaaGreatDoorJ19
import Derived.Test.YtijkdpdmclkmlaaGreatDoorJ20
import Derived.Test.YtijkdpdmclkmlaaGreatDoorJ3
import Derived.Test.YtijkdpdmclkmlaaGreatDoorJ8
import Derived.Test.YtijkdpdmclkmlaaGreatDoorJ16
import Derived.Test.YtijkdpdmclkmlaaGreatDoorJ14
import Derived.BigQuiet
set_option linter.unusedSimpArgs false
set_option linter.unusedVariables false
set_option maxRecDepth 100000
set_option maxHeartbeats 16000000
namespace Go.Proofs.YtijkdpdmclkmlaaGreatDoor
open Go.RowKit
/-- A world that a fact stands for. -/
theorem pull_world {T G : World → Prop} {W : World} (h : T W) (k : ∀ W', T W' → G W') : G W := k W h

section
variable {w W W' wn : World} {B P : Nat} {bx : Array Value} {X : BX}
/-- A box that is filled. -/
theorem gt_fill (hk : Kept (fun q => B ≤ q) w W) (hP : W.heap[P]? = some (.cells #[.int .i64 0, .slice none 0 0, .slice none 0 0, .int .i64 0, .slice none 0 0, .slice none 0 0] 31)) (hB : B ≤ P) (hob : OB W B X) :
  GT w B P X.cells X ((((((W.setCell ⟨P, 0, none⟩ (.int .i64 X.r)).setCell ⟨P, 1, none⟩ X.nv).setCell ⟨P, 2, none⟩ X.sv).setCell ⟨P, 3, none⟩ (.int .i64 X.e)).setCell ⟨P, 4, none⟩ X.ov).setCell ⟨P, 5, none⟩ X.iv) := by
 have h0 : GT w B P #[.int .i64 0, .slice none 0 0, .slice none 0 0, .int .i64 0, .slice none 0 0, .slice none 0 0] X W := { k := hk.mono fun q hq => .inr hq, box := hP, ob := hob }
 exact ((((((h0.put 0 _).put 1 _).put 2 _).put 3 _).put 4 _).put 5 _)
/-- A node more, whose links' row was laid behind the world wn. -/
theorem GT.appN2 {v l : Value} {x : Nod} (h : GT w B P bx X W) (h0 : OB wn B X) (hx : W.ownsRow wn.heap.size 3 1 l x.2.2.length (ints x.2.2)) (hB : B ≤ wn.heap.size) (ho : W'.ownsRow B 88 3 v (X.ns.length + 1) (ncells X.ns X.ls ++ [.int .i64 x.1, .int .i64 x.2.1, l])) (hk : Kept (fun q => X.nv.ownBlock = some q) W W') : GT w B P bx { X with nv := v, ns := X.ns ++ [x], ls := X.ls ++ [l] } W' :=
 h.appN (owns_mono hx hB) (fun b hb => ⟨fun e => by have := (h0.S.lt b e).2; have := (hx.lt b hb).1; omega, fun i m hm e => by obtain ⟨y, _, hy⟩ := h0.N.lkown hm; have := (hy.lt b e).2; have := (hx.lt b hb).1; omega⟩) ho hk
end

theorem el_nodO : El Tryz.prog 27 88 3 40 := El.mk' Tryz.underlying27 (by kernel_rfl : _ = some (some (.agg #[.int .i64 0, .int .i64 0, .slice none 0 0]), 3, 40)) rfl (by decide)
theorem wi_cells {w : World} {v : Value} {l : List Wi} (h : RSl RWi 2 w v l) : ∃ A c, v = .slice A l.length c ∧ Cells w A (l.flatMap encWi) := by
 obtain ⟨A, c, css, rfl, _, hl, _, hc, hr⟩ := h
 have e : css = l.map encWi := by
  apply List.ext_getElem?
  intro i
  rw [List.getElem?_map]
  by_cases hi : i < l.length
  ·have h1 : css[i]? = some (css[i]'(by omega)) := List.getElem?_eq_getElem _
   have h2 : l[i]? = some l[i] := List.getElem?_eq_getElem _
   rw [h1, h2]
   exact congrArg some (hr i _ _ h1 h2)
  rw [List.getElem?_eq_none (by omega), List.getElem?_eq_none (by omega)]; rfl
 rw [e] at hc
 exact ⟨A, c, rfl, hc⟩
/-- The copy while it grows. -/
def XO (g : Gr) (sv ov iv nv : Value) (ls : List Value) (k : Nat) : BX := ⟨g.roots, g.edges, nv, sv, ov, iv, g.nodes.take k, ls, g.sites, g.outer, g.inner⟩
section
variable {w w0 W W' wn : World} {B P : Nat} {bx : Array Value} {g : Gr} {sv ov iv nv : Value} {ls : List Value} {k : Nat}
theorem XO_N (h : OB W B (XO g sv ov iv nv ls k)) (hk : k ≤ g.nodes.length) : W.ownsRow B 88 3 nv k (ncells (g.nodes.take k) ls) := by
 have := h.N.own
 rw [show (XO g sv ov iv nv ls k).ns.length = k from by show (g.nodes.take k).length = k; rw [List.length_take]; omega] at this
 exact this
theorem XO_next {v l : Value} {x : Nod} (h : GT w0 B P bx (XO g sv ov iv nv ls k) W) (h0 : OB wn B (XO g sv ov iv nv ls k)) (hx : W.ownsRow wn.heap.size 3 1 l x.2.2.length (ints x.2.2)) (hB : B ≤ wn.heap.size) (hlt : k < g.nodes.length) (hg : g.nodes[k] = x) (ho : W'.ownsRow B 88 3 v (k + 1) (ncells (g.nodes.take k) ls ++ [.int .i64 x.1, .int .i64 x.2.1, l])) (hk : Kept (fun q => nv.ownBlock = some q) W W') : GT w0 B P bx (XO g sv ov iv v (ls ++ [l]) (k + 1)) W' := by
 have := h.appN2 (x := x) (v := v) h0 hx hB (by rw [show (XO g sv ov iv nv ls k).ns.length = k from by show (g.nodes.take k).length = k; rw [List.length_take]; omega]; exact ho) hk
 unfold XO
 rw [List.take_succ_eq_append_getElem hlt, hg]
 exact this
theorem XO_all : (XO g sv ov iv nv ls g.nodes.length).g = g := by unfold XO BX.g; rw [List.take_length]
end

theorem ownBigraph_any (g : Gr) (nv sv ov iv : Value) (w : World) (hs : SmallG g) (hG : RGr w nv sv ov iv g) :
  Calls Tryz.prog 189 #[.agg #[.int .i64 g.roots, nv, sv, .int .i64 g.edges, ov, iv]] w fun e w' => ∃ X : BX, e = .returned (.agg X.cells) ∧ X.g = g ∧ RG w w' X := by
 have HG := Lib.hid (show ∀ W, Below w.heap.size w W → RGr W nv sv ov iv g from fun W hb => hG.below hb)
 obtain ⟨AN, cN, AS, cS, AO, cO, AI, cI, rfl, rfl, rfl, rfl⟩ := hG.form
 obtain ⟨w0, hw0, hb0, hs0, bx0, hR0⟩ := laid2 w (.cells #[.int .i64 g.roots, .slice AN g.nodes.length cN, .slice AS g.sites.length cS, .int .i64 g.edges, .slice AO g.outer.length cO, .slice AI g.inner.length cI] 31) (.cells #[.int .i64 0, .slice none 0 0, .slice none 0 0, .int .i64 0, .slice none 0 0, .slice none 0 0] 31)
 have HX := Lib.hid (keepB bx0)
 have HRR := Lib.hid (keepB hR0)
 have HB0 := Lib.hid hb0
 have HR0 := Lib.hid hR0
 have HW0 := Lib.hid hw0
 have HS0 := Lib.hid hs0
 have hsl := hs.sites
 have hol := hs.outer
 have hil := hs.inner
 have hnl := hs.nodes
 have HLK := Lib.hid (show ∀ k, (h : k < g.nodes.length) → g.nodes[k].2.2.length ≤ 1000 from fun k h => hs.links _ (List.getElem_mem h))
 obtain ⟨x0, x1, x2, x3, x4, x5⟩ := row6 bx0
 rw [hw0] at x0 x1 x2 x3 x4 x5
 rw [← hw0] at x0 x1 x2 x3 x4 x5
 clear hs hG hb0 bx0 hR0 hw0
 go_enter Tryz.func189, Tryz.ntmps189
 go_wp2_with (rw [← HW0.out])
 refine wp_region_tail (by kernel_rfl) 15 _ rfl [some 6, some 7, some 8, some 9, some 10, some 11, some 12, some 13, some 14, some 15, some 16, some 17, some 18, some 19, some 3, none] (fun q v W => match q with | 0 => v = .pointer (some ⟨w.heap.size, 0, none⟩) | 1 => v = .int .i64 g.roots | 2 => v = .pointer (some ⟨w.heap.size, 2, none⟩) | 3 => v = .slice AS g.sites.length cS | 4 => ∃ A c, v = .slice A (g.sites.length) c ∧ W.ownsRow (w0.heap.size) 3 1 (.slice A (g.sites.length) c) (g.sites.length) (ints g.sites) | 5 => v = .pointer (some ⟨w.heap.size, 3, none⟩) | 6 => v = .int .i64 g.edges | 7 => v = .pointer (some ⟨w.heap.size, 4, none⟩) | 8 => v = .slice AO g.outer.length cO | 9 => ∃ A c, v = .slice A (g.outer.length) c ∧ W.ownsRow (w0.heap.size) 9 1 (.slice A (g.outer.length) c) (g.outer.length) (strs g.outer) | 10 => v = .pointer (some ⟨w.heap.size, 5, none⟩) | 11 => v = .slice AI g.inner.length cI | 12 => ∃ A c, v = .slice A (g.inner.length) c ∧ W.ownsRow (w0.heap.size) 90 2 (.slice A (g.inner.length) c) (g.inner.length) (g.inner.flatMap encWi) | 13 => ∃ Aa ca Ab cb Ac cc, v = .agg #[.int .i64 g.roots, .slice none 0 0, .slice Aa g.sites.length ca, .int .i64 g.edges, .slice Ab g.outer.length cb, .slice Ac g.inner.length cc] ∧ W.ownsRow w0.heap.size 3 1 (.slice Aa g.sites.length ca) g.sites.length (ints g.sites) ∧ W.ownsRow w0.heap.size 9 1 (.slice Ab g.outer.length cb) g.outer.length (strs g.outer) ∧ W.ownsRow w0.heap.size 90 2 (.slice Ac g.inner.length cc) g.inner.length (g.inner.flatMap encWi) | 14 => ∃ g : Nat, v = .pointer (some ⟨g, 0, none⟩) ∧ w0.heap.size ≤ g ∧ W.heap[g]? = some (.cells #[.int .i64 0, .slice none 0 0, .slice none 0 0, .int .i64 0, .slice none 0 0, .slice none 0 0] 31) | _ => True) (by kernel_rfl) (by kernel_rfl) (by kernel_rfl) rfl ?m1o ?s1t ?t1a
 case m1o =>
  intro q v W W' hb h
  match q, h with
  | 0, h | 1, h | 2, h | 3, h | 5, h | 6, h | 7, h | 8, h | 10, h | 11, h => exact h
  | 4, h | 9, h | 12, h => exact (by obtain ⟨A, c, e, h1⟩ := h; exact ⟨A, c, e, owns_below h1 hb (Nat.le_refl _)⟩)
  | 13, h => exact (by obtain ⟨a, ca, b, cb, c, cc, e, h1, h2, h3⟩ := h; exact ⟨a, ca, b, cb, c, cc, e, owns_below h1 hb (Nat.le_refl _), owns_below h2 hb (Nat.le_refl _), owns_below h3 hb (Nat.le_refl _)⟩)
  | 14, h => exact (by obtain ⟨g, e, h1, h2⟩ := h; exact ⟨g, e, h1, (hb.block g (Array.getElem?_eq_some_iff.1 h2).1).trans h2⟩)
  | q + 15, _ => trivial
 case s1t =>
  as_aux_lemma =>
   intro L act W q oo hJ hqn ho hd K3 hK3
   match q, ho with
   | 0, ho | 2, ho | 5, ho | 7, ho | 10, ho =>
    cases ho
    have hbW := hJ.bel
    have a1 : act.tmps[1]? = some _ := hJ.out 1 (by decide)
    clear hJ hd
    go_simp
    exact hK3 _ _ (Below.refl _ _) rfl
   | 1, ho =>
    cases ho
    simp [Region.binds] at hd
    have hbW := hJ.bel
    have v0 := hJ.val (by simp [hd] : L 0 = true) rfl fun _ h => h
    clear hJ hd
    have bxW := HX.out W hbW
    have x0 := cell_of_row _ _ 0 _ _ _ bxW
    clear bxW
    go_simp
    exact hK3 _ _ (Below.refl _ _) rfl
   | 3, ho =>
    cases ho
    simp [Region.binds] at hd
    have hbW := hJ.bel
    have v2 := hJ.val (by simp [hd] : L 2 = true) rfl fun _ h => h
    clear hJ hd
    have bxW := HX.out W hbW
    have x2 := cell_of_row _ _ 2 _ _ _ bxW
    clear bxW
    go_simp
    exact hK3 _ _ (Below.refl _ _) rfl
   | 4, ho =>
    cases ho
    simp [Region.binds] at hd
    have hbW := hJ.bel
    have v3 := hJ.val (by simp [hd] : L 3 = true) rfl fun _ h => h
    clear hJ hd
    obtain ⟨A2, c2, e2, hcc⟩ := (HG.out W (HB0.out.trans (hbW.mono HB0.out.size))).s
    cases e2
    have HCC := Lib.hid hcc
    clear hcc
    have hsz := hbW.size
    have HBW := Lib.hid hbW
    have HSZ := Lib.hid hsz
    clear hsz hbW
    go_simp
    go_at_call 181
    refine (cloneIG_any _ _ _ W (by omega) HCC.out).mono ?_
    rintro e W' ⟨u, rfl, hu, hb⟩
    have hsz := HSZ.out
    obtain ⟨Au, cu, rfl, hu⟩ := owns_form hu
    go_simp
    exact hK3 _ _ hb ⟨_, _, rfl, owns_mono hu (by have := hsz; omega)⟩
   | 6, ho =>
    cases ho
    simp [Region.binds] at hd
    have hbW := hJ.bel
    have v5 := hJ.val (by simp [hd] : L 5 = true) rfl fun _ h => h
    clear hJ hd
    have bxW := HX.out W hbW
    have x3 := cell_of_row _ _ 3 _ _ _ bxW
    clear bxW
    go_simp
    exact hK3 _ _ (Below.refl _ _) rfl
   | 8, ho =>
    cases ho
    simp [Region.binds] at hd
    have hbW := hJ.bel
    have v7 := hJ.val (by simp [hd] : L 7 = true) rfl fun _ h => h
    clear hJ hd
    have bxW := HX.out W hbW
    have x4 := cell_of_row _ _ 4 _ _ _ bxW
    clear bxW
    go_simp
    exact hK3 _ _ (Below.refl _ _) rfl
   | 9, ho =>
    cases ho
    simp [Region.binds] at hd
    have hbW := hJ.bel
    have v8 := hJ.val (by simp [hd] : L 8 = true) rfl fun _ h => h
    clear hJ hd
    obtain ⟨A2, c2, e2, hcc⟩ := (HG.out W (HB0.out.trans (hbW.mono HB0.out.size))).o
    cases e2
    have HCC := Lib.hid hcc
    clear hcc
    have hsz := hbW.size
    have HBW := Lib.hid hbW
    have HSZ := Lib.hid hsz
    clear hsz hbW
    go_simp
    go_at_call 124
    refine (cloneSG_any _ _ _ W (by omega) HCC.out).mono ?_
    rintro e W' ⟨u, rfl, hu, hb⟩
    have hsz := HSZ.out
    obtain ⟨Au, cu, rfl, hu⟩ := owns_form hu
    go_simp
    exact hK3 _ _ hb ⟨_, _, rfl, owns_mono hu (by have := hsz; omega)⟩
   | 11, ho =>
    cases ho
    simp [Region.binds] at hd
    have hbW := hJ.bel
    have v10 := hJ.val (by simp [hd] : L 10 = true) rfl fun _ h => h
    clear hJ hd
    have bxW := HX.out W hbW
    have x5 := cell_of_row _ _ 5 _ _ _ bxW
    clear bxW
    go_simp
    exact hK3 _ _ (Below.refl _ _) rfl
   | 12, ho =>
    cases ho
    simp [Region.binds] at hd
    have hbW := hJ.bel
    have v11 := hJ.val (by simp [hd] : L 11 = true) rfl fun _ h => h
    clear hJ hd
    obtain ⟨A2, c2, e2, hcc⟩ := wi_cells (HG.out W (HB0.out.trans (hbW.mono HB0.out.size))).i
    cases e2
    have HCC := Lib.hid hcc
    clear hcc
    have hsz := hbW.size
    have HBW := Lib.hid hbW
    have HSZ := Lib.hid hsz
    clear hsz hbW
    go_simp
    go_at_call 155
    refine (cloneWG_any _ _ _ W (by omega) HCC.out).mono ?_
    rintro e W' ⟨u, rfl, hu, hb⟩
    have hsz := HSZ.out
    obtain ⟨Au, cu, rfl, hu⟩ := owns_form hu
    go_simp
    exact hK3 _ _ hb ⟨_, _, rfl, owns_mono hu (by have := hsz; omega)⟩
   | 13, ho =>
    cases ho
    simp [Region.binds] at hd
    have hbW := hJ.bel
    have v1 := hJ.val (by simp [hd] : L 1 = true) rfl fun _ h => h
    have l4 : L 4 = true := by simp [hd]
    obtain ⟨_, v4, A4, c4, rfl, hr4⟩ := hJ.has 4 10 l4 rfl
    have v6 := hJ.val (by simp [hd] : L 6 = true) rfl fun _ h => h
    have l9 : L 9 = true := by simp [hd]
    obtain ⟨_, v9, A9, c9, rfl, hr9⟩ := hJ.has 9 15 l9 rfl
    have l12 : L 12 = true := by simp [hd]
    obtain ⟨_, v12, A12, c12, rfl, hr12⟩ := hJ.has 12 18 l12 rfl
    clear hJ hd
    go_simp
    exact hK3 _ _ (Below.refl _ _) ⟨_, _, _, _, _, _, rfl, hr4, hr9, hr12⟩
   | 14, ho =>
    cases ho
    have hbW := hJ.bel
    clear hJ hd
    have hsz := hbW.size
    go_simp
    exact hK3 _ _ ((Below.refl _ _).alloc (Nat.le_refl _) _) ⟨_, rfl, by omega, heap_alloc_new _ _⟩
   | 15, _ => exact absurd rfl hqn
   | q + 16, ho => simp at ho
 intro V W hbW hV K3 hK3
 have v0 : V 0 = _ := hV 0 6 rfl
 have v1 : V 1 = _ := hV 1 7 rfl
 have v2 : V 2 = _ := hV 2 8 rfl
 have v3 : V 3 = _ := hV 3 9 rfl
 obtain ⟨A4, c4, v4, hr4⟩ : ∃ A c, V 4 = .slice A (g.sites.length) c ∧ W.ownsRow (w0.heap.size) 3 1 (.slice A (g.sites.length) c) (g.sites.length) (ints g.sites) := hV 4 10 rfl
 have v5 : V 5 = _ := hV 5 11 rfl
 have v6 : V 6 = _ := hV 6 12 rfl
 have v7 : V 7 = _ := hV 7 13 rfl
 have v8 : V 8 = _ := hV 8 14 rfl
 obtain ⟨A9, c9, v9, hr9⟩ : ∃ A c, V 9 = .slice A (g.outer.length) c ∧ W.ownsRow (w0.heap.size) 9 1 (.slice A (g.outer.length) c) (g.outer.length) (strs g.outer) := hV 9 15 rfl
 have v10 : V 10 = _ := hV 10 16 rfl
 have v11 : V 11 = _ := hV 11 17 rfl
 obtain ⟨A12, c12, v12, hr12⟩ : ∃ A c, V 12 = .slice A (g.inner.length) c ∧ W.ownsRow (w0.heap.size) 90 2 (.slice A (g.inner.length) c) (g.inner.length) (g.inner.flatMap encWi) := hV 12 18 rfl
 obtain ⟨Aa13, ca13, Ab13, cb13, Ac13, cc13, v13, hr13⟩ : ∃ Aa ca Ab cb Ac cc, V 13 = .agg #[.int .i64 g.roots, .slice none 0 0, .slice Aa g.sites.length ca, .int .i64 g.edges, .slice Ab g.outer.length cb, .slice Ac g.inner.length cc] ∧ W.ownsRow w0.heap.size 3 1 (.slice Aa g.sites.length ca) g.sites.length (ints g.sites) ∧ W.ownsRow w0.heap.size 9 1 (.slice Ab g.outer.length cb) g.outer.length (strs g.outer) ∧ W.ownsRow w0.heap.size 90 2 (.slice Ac g.inner.length cc) g.inner.length (g.inner.flatMap encWi) := hV 13 19 rfl
 obtain ⟨g14, v14, hr14⟩ : ∃ g : Nat, V 14 = .pointer (some ⟨g, 0, none⟩) ∧ w0.heap.size ≤ g ∧ W.heap[g]? = some (.cells #[.int .i64 0, .slice none 0 0, .slice none 0 0, .int .i64 0, .slice none 0 0, .slice none 0 0] 31) := hV 14 3 rfl
 clear hV
 obtain ⟨h1, h2, h3⟩ := hr13
 have hob : OB W (w.heap.size + 1 + 1) (XO g (.slice Aa13 g.sites.length ca13) (.slice Ab13 g.outer.length cb13) (.slice Ac13 g.inner.length cc13) (.slice none 0 0) [] 0) := { N := { own := none_row, len := rfl, lk := fun i l x h => by simp [XO] at h, dis := fun i j l l' b _ h => by simp [XO] at h, sep := fun i l b h => by simp [XO] at h }, S := owns_mono h1 (by have := HS0.out; omega), O := owns_mono h2 (by have := HS0.out; omega), I := owns_mono h3 (by have := HS0.out; omega) }
 have HGF := Lib.hid (gt_fill (w := w0) (P := g14) (X := (XO g (.slice Aa13 g.sites.length ca13) (.slice Ab13 g.outer.length cb13) (.slice Ac13 g.inner.length cc13) (.slice none 0 0) [] 0)) ((Kept.of_below hbW (fun q => w.heap.size + 1 + 1 ≤ q))) hr14.2 (by have := hr14.1; have := HS0.out; omega) hob)
 have HBW := Lib.hid hbW
 have HP14 := Lib.hid hr14.1
 have hgw := hr14.2
 obtain ⟨z0, z1, z2, z3, z4, z5, f0, f1, f2, f3, f4, f5⟩ := row6f hgw
 clear hgw hr14 hob h1 h2 h3 hr4 hr9 hr12 hbW x0 x1 x2 x3 x4 x5
 simp only [layV, List.setIfInBounds_toArray, List.set_cons_zero, List.set_cons_succ, v0, v1, v2, v3, v4, v5, v6, v7, v8, v9, v10, v11, v12, v13, v14] at hK3 ⊢
 clear v0 v1 v2 v3 v4 v5 v6 v7 v8 v9 v10 v11 v12 v13 v14
 refine ⟨?_⟩
 go_simp
 refine hK3 _ ?_
 clear hK3 K3
 refine pull_world (T := fun W2 => GT w0 (w.heap.size + 1 + 1) g14 (BX.cells (XO g (.slice Aa13 g.sites.length ca13) (.slice Ab13 g.outer.length cb13) (.slice Ac13 g.inner.length cc13) (.slice none 0 0) [] 0)) (XO g (.slice Aa13 g.sites.length ca13) (.slice Ab13 g.outer.length cb13) (.slice Ac13 g.inner.length cc13) (.slice none 0 0) [] 0) W2) HGF.out ?_
 intro W2 hG2
 have HG0 := Lib.hid hG2
 clear hG2 z0 z1 z2 z3 z4 z5 f0 f1 f2 f3 f4 f5 HGF
 have hgP : w.heap.size + 1 + 1 ≤ g14 := by have := HP14.out; have := HS0.out; omega
 have hbx := below_kept (Below.refl _ _) HG0.out.k (fun q hq => by have := HS0.out; rcases hq with hq | hq <;> omega) (Nat.le_refl _)
 have bxr := HX.out W2 hbx
 have x1 := cell_of_row _ _ 1 _ _ _ bxr
 clear bxr hbx
 go_wp2_with fail
 go_loopw [23] (fun i wr => ∃ (k : Nat) (nv : Value) (ls : List Value), k ≤ g.nodes.length ∧ i = .int .i64 k ∧ GT w0 (w.heap.size + 1 + 1) g14 (BX.cells (XO g (.slice Aa13 g.sites.length ca13) (.slice Ab13 g.outer.length cb13) (.slice Ac13 g.inner.length cc13) nv ls k)) (XO g (.slice Aa13 g.sites.length ca13) (.slice Ab13 g.outer.length cb13) (.slice Ac13 g.inner.length cc13) nv ls k) wr)
  (fun i _ => g.nodes.length - (intOf i).toNat)
 case atStart => exact ⟨0, _, _, Nat.zero_le _, rfl, HG0.out⟩
 obtain ⟨k, nv, ls, hk, rfl, hG⟩ := hrel
 have hN := XO_N hG.ob hk
 obtain ⟨AN2, cN2, rfl, _⟩ := owns_form hN
 have hbx : Below w0.heap.size w0 wr := below_kept (Below.refl _ _) hG.k (fun q hq => by have := HS0.out; rcases hq with hq | hq <;> omega) (Nat.le_refl _)
 have hsz : w.heap.size + 1 + 1 ≤ wr.heap.size := by have := hbx.size; have := HS0.out; omega
 have HGT := Lib.hid hG
 have HBX := Lib.hid hbx
 clear hN hG
 by_cases hlt : k < g.nodes.length
 ·obtain ⟨b, o, c, AL, cL, eN, c0, c1, c2, hA⟩ := nod_at (HG.out wr (HB0.out.trans (hbx.mono HB0.out.size))).n hlt
  cases eN
  have hll := HLK.out k hlt
  obtain ⟨x, hx⟩ : ∃ x, g.nodes[k] = x := ⟨_, rfl⟩
  rw [hx] at c0 c1 c2 hA hll
  obtain ⟨ct, pa, lk⟩ := x
  have HXE := Lib.hid hx
  replace c0 : World.cell? wr ⟨b, o + k * 3, none⟩ = some (.int .i64 ct) := c0
  replace c1 : World.cell? wr ⟨b, o + k * 3 + 1, none⟩ = some (.int .i64 pa) := c1
  replace c2 : World.cell? wr ⟨b, o + k * 3 + 2, none⟩ = some (.slice AL lk.length cL) := c2
  replace hll : lk.length ≤ 1000 := hll
  replace hA : Cells wr AL (ints lk) := hA
  have HCA := Lib.hid (show ∀ W, Below wr.heap.size wr W → Cells W AL (ints lk) from fun W hb => hA.below hb)
  have b0 : (0 : Int) ≤ (k : Int) := by omega
  have b1 : (k : Int) < (g.nodes.length : Int) := by omega
  clear hA hx hbx x1
  obtain ⟨wn, hwn, hbn, -, hnn⟩ := laid1 wr (.cells #[.int .i64 ct, .int .i64 pa, .slice AL lk.length cL] 88)
  have HNN := Lib.hid (show ∀ W, Below wn.heap.size wn W → W.heap[wr.heap.size]? = some (.cells #[.int .i64 ct, .int .i64 pa, .slice AL lk.length cL] 88) from fun W hb => (hb.block _ (by have := (Array.getElem?_eq_some_iff.1 hnn).1; omega)).trans hnn)
  have HBN := Lib.hid hbn
  have HGN := Lib.hid (HGT.out.lay hbn)
  have hszn : w.heap.size + 1 + 1 ≤ wn.heap.size := by have := hbn.size; omega
  have HWN := Lib.hid hwn
  clear hnn hbn hwn
  go_wp2_with (rw [← HWN.out])
  refine wp_region_ph (by kernel_rfl) [some 27, some 28, some 29, some 30, some 31, some 32, some 33, some 34, some 35, some 36, some 37, some 38, some 39, none] (fun q v => match q with | 0 => v = .pointer (some ⟨g14, 1, none⟩) | 1 => v = .slice AN2 k cN2 | 2 => v = .pointer (some ⟨wr.heap.size, 0, none⟩) | 3 => v = .int .i64 ct | 4 => v = .pointer (some ⟨wr.heap.size, 1, none⟩) | 5 => v = .int .i64 pa | 6 => v = .pointer (some ⟨wr.heap.size, 2, none⟩) | 7 => v = .slice AL lk.length cL | 8 => ∃ Au cu, v = .slice Au lk.length cu | 9 => ∃ Au cu, v = .agg #[.int .i64 ct, .int .i64 pa, .slice Au lk.length cu] | 10 => ∃ gz, v = .slice (some ⟨gz, 0, none⟩) 1 1 | 11 => True | 12 => v = .pointer (some ⟨g14, 1, none⟩) | 13 => True | _ => True) (fun q v W => match q with | 0 => True | 1 => True | 2 => True | 3 => True | 4 => True | 5 => True | 6 => True | 7 => True | 8 => W.ownsRow wn.heap.size 3 1 v lk.length (ints lk) | 9 => ∀ u, v = .agg #[.int .i64 ct, .int .i64 pa, u] → W.ownsRow wn.heap.size 3 1 u lk.length (ints lk) | 10 => ∀ g, v = .slice (some ⟨g, 0, none⟩) 1 1 → 0 ≤ g ∧ ∃ u, W.ownsRow wn.heap.size 3 1 u lk.length (ints lk) ∧ W.heap[g]? = some (.cells #[.int .i64 ct, .int .i64 pa, u] 88) | 11 => True | 12 => True | 13 => True | _ => True) (fun W W' => Below W.heap.size W W') 11 13 (fun kk W => GT w0 (w.heap.size + 1 + 1) g14 (BX.cells (XO g (.slice Aa13 g.sites.length ca13) (.slice Ab13 g.outer.length cb13) (.slice Ac13 g.inner.length cc13) (.slice AN2 k cN2) ls k)) (XO g (.slice Aa13 g.sites.length ca13) (.slice Ab13 g.outer.length cb13) (.slice Ac13 g.inner.length cc13) (.slice AN2 k cN2) ls k) W ∧ Below wn.heap.size wn W) (fun v W => (∃ A2 c2, v = .slice A2 (k + 1) c2) ∧ ∃ ls2, GT w0 (w.heap.size + 1 + 1) g14 (BX.cells (XO g (.slice Aa13 g.sites.length ca13) (.slice Ab13 g.outer.length cb13) (.slice Ac13 g.inner.length cc13) (.slice AN2 k cN2) ls k)) (XO g (.slice Aa13 g.sites.length ca13) (.slice Ab13 g.outer.length cb13) (.slice Ac13 g.inner.length cc13) v ls2 (k + 1)) W) (fun v W => (∃ A2 c2, v = .slice A2 (k + 1) c2) ∧ ∃ ls2, GT w0 (w.heap.size + 1 + 1) g14 (BX.cells (XO g (.slice Aa13 g.sites.length ca13) (.slice Ab13 g.outer.length cb13) (.slice Ac13 g.inner.length cc13) v ls2 (k + 1))) (XO g (.slice Aa13 g.sites.length ca13) (.slice Ab13 g.outer.length cb13) (.slice Ac13 g.inner.length cc13) v ls2 (k + 1)) W) (by kernel_rfl) (by kernel_rfl) (by kernel_rfl) (by decide) (by decide) ?m2o ?r2s ?h20 ?s2t ?f2i
  case m2o => exact fun k k' W h hd => hd
  case r2s =>
   intro q v W W' ht h
   match q, h with
   | 0, h | 1, h | 2, h | 3, h | 4, h | 5, h | 6, h | 7, h | 11, h | 12, h | 13, h => exact h
   | 8, h => exact owns_below h ht (Nat.le_refl _)
   | 9, h => exact fun u e => owns_below (h u e) ht (Nat.le_refl _)
   | 10, h => exact (fun g e => by obtain ⟨h1, u, h2, h3⟩ := h g e; exact ⟨h1, u, owns_below h2 ht (Nat.le_refl _), (ht.block g (Array.getElem?_eq_some_iff.1 h3).1).trans h3⟩)
   | q + 14, _ => trivial
  case h20 => exact ⟨HGN.out.drew, (Below.refl _ _).drew⟩
  case s2t =>
   as_aux_lemma =>
    intro L act W q oo hJ hL hA hS ho hd K3 hK3
    match q, ho with
    | 0, ho | 12, ho =>
     cases ho
     have a3 : act.tmps[3]? = some _ := hJ.out 3 (by decide)
     clear hJ hd
     go_simp
     exact hK3 _ _ (.same (by decide) (by decide) rfl rfl (fun _ => trivial))
    | 1, ho =>
     cases ho
     simp [Region.binds] at hd
     have v0 := hJ.val (by simp [hd] : L 0 = true) rfl fun _ h => h
     have hn : L 11 = false := hA (by kernel_rfl)
     have hD := hJ.d hn
     have z1 := hD.1.cell (f := 1) (u := .slice AN2 k cN2) rfl
     have HD := Lib.hid hD
     clear hD hJ hd
     go_simp
     exact hK3 _ _ (.same (by decide) (by decide) rfl rfl (fun _ => trivial))
    | 2, ho | 4, ho | 6, ho =>
     cases ho
     have a5 : act.tmps[5]? = some _ := hJ.out 5 (by decide)
     clear hJ hd
     go_simp
     exact hK3 _ _ (.same (by decide) (by decide) rfl rfl (fun _ => trivial))
    | 3, ho =>
     cases ho
     simp [Region.binds] at hd
     have v2 := hJ.val (by simp [hd] : L 2 = true) rfl fun _ h => h
     have hn : L 11 = false := hA (by kernel_rfl)
     have hD := hJ.d hn
     have bn := HNN.out W hD.2
     have n0 : World.cell? W ⟨wr.heap.size, 0, none⟩ = some (.int .i64 ct) := cell_of_row _ _ 0 _ _ _ bn
     clear bn
     have HD := Lib.hid hD
     clear hD hJ hd
     go_simp
     exact hK3 _ _ (.same (by decide) (by decide) rfl rfl (fun _ => trivial))
    | 5, ho =>
     cases ho
     simp [Region.binds] at hd
     have v4 := hJ.val (by simp [hd] : L 4 = true) rfl fun _ h => h
     have hn : L 11 = false := hA (by kernel_rfl)
     have hD := hJ.d hn
     have bn := HNN.out W hD.2
     have n1 : World.cell? W ⟨wr.heap.size, 1, none⟩ = some (.int .i64 pa) := cell_of_row _ _ 1 _ _ _ bn
     clear bn
     have HD := Lib.hid hD
     clear hD hJ hd
     go_simp
     exact hK3 _ _ (.same (by decide) (by decide) rfl rfl (fun _ => trivial))
    | 7, ho =>
     cases ho
     simp [Region.binds] at hd
     have v6 := hJ.val (by simp [hd] : L 6 = true) rfl fun _ h => h
     have hn : L 11 = false := hA (by kernel_rfl)
     have hD := hJ.d hn
     have bn := HNN.out W hD.2
     have n2 : World.cell? W ⟨wr.heap.size, 2, none⟩ = some (.slice AL lk.length cL) := cell_of_row _ _ 2 _ _ _ bn
     clear bn
     have HD := Lib.hid hD
     clear hD hJ hd
     go_simp
     exact hK3 _ _ (.same (by decide) (by decide) rfl rfl (fun _ => trivial))
    | 8, ho =>
     cases ho
     simp [Region.binds] at hd
     have v7 := hJ.val (by simp [hd] : L 7 = true) rfl fun _ h => h
     have hn : L 11 = false := hA (by kernel_rfl)
     have hD := hJ.d hn
     have HD := Lib.hid hD
     clear hJ hd hD
     go_simp
     go_at_call 181
     refine (cloneIG_any AL cL lk W (by omega) (HCA.out W (HBN.out.trans (HD.out.2.mono HBN.out.size)))).mono ?_
     rintro e W' ⟨u, rfl, hu, hb⟩
     obtain ⟨Av, cv, rfl, hu⟩ := owns_form hu
     go_simp
     exact hK3 _ _ (.lay (by decide) (by decide) ⟨_, _, rfl⟩ hn (hb) (owns_mono hu HD.out.2.size) (⟨HD.out.1.lay hb, HD.out.2.trans (hb.mono HD.out.2.size)⟩))
    | 9, ho =>
     cases ho
     simp [Region.binds] at hd
     have v3 := hJ.val (by simp [hd] : L 3 = true) rfl fun _ h => h
     have v5 := hJ.val (by simp [hd] : L 5 = true) rfl fun _ h => h
     have l8 : L 8 = true := by simp [hd]
     obtain ⟨u8, v8, ⟨Au, cu, rfl⟩, hr8⟩ := hJ.has 8 35 l8 rfl
     clear hJ hd
     go_simp
     exact hK3 _ _ (.same (by decide) (by decide) ⟨_, _, rfl⟩ rfl ((fun hn u e => by cases e; exact hr8 hn)))
    | 10, ho =>
     cases ho
     simp [Region.binds] at hd
     have l9 : L 9 = true := by simp [hd]
     obtain ⟨u9, v9, ⟨Au, cu, rfl⟩, hr9⟩ := hJ.has 9 36 l9 rfl
     have hn : L 11 = false := hA (by kernel_rfl)
     have hD := hJ.d hn
     have HD := Lib.hid hD
     clear hJ hd hD
     go_simp
     exact hK3 _ _ (.lay (by decide) (by decide) ⟨_, rfl⟩ hn ((Below.refl _ _).alloc (Nat.le_refl _) _) (fun g e => by injection e with e1; injection e1 with e2; injection e2 with e3; subst e3; exact ⟨Nat.zero_le _, _, owns_below (hr9 hn _ rfl) ((Below.refl _ _).alloc (Nat.le_refl _) _) (Nat.le_refl _), heap_alloc_new _ _⟩) (⟨HD.out.1.lay ((Below.refl _ _).alloc (Nat.le_refl _) _), HD.out.2.trans ((Below.refl _ _).alloc HD.out.2.size _)⟩))
    | 11, ho =>
     cases ho
     simp [Region.binds] at hd
     have v1 := hJ.val (by simp [hd] : L 1 = true) rfl fun _ h => h
     have l10 : L 10 = true := by simp [hd]
     obtain ⟨u10, v10, ⟨gz, rfl⟩, hr10⟩ := hJ.has 10 37 l10 rfl
     have hn : L 11 = false := hA (by kernel_rfl)
     have hD := hJ.d hn
     obtain ⟨hg1, u, hu, hg2⟩ := hr10 hn gz rfl
     clear hJ hd
     refine step_appM el_nodO rfl (.tmp 28) (.tmp 37) rfl (w.heap.size + 1 + 1) ((.slice AN2 k cN2)) k ((ncells (g.nodes.take k) ls)) (by simp [Act.eval, *]) (XO_N hD.1.ob hk) ⟨gz, 0, none⟩ 1 1 [.int .i64 ct, .int .i64 pa, u] (by simp [Act.eval, *]) (by decide) rfl (fun j' u' hj' => by rw [show (⟨gz, 0, none⟩ : Addr).add j' = ⟨gz, j', none⟩ from by simp [Addr.add, eq_comm], cell_of_row W gz _ _ _ _ hg2]; simpa using hj') ((by obtain ⟨Au, cu, rfl, _⟩ := owns_form hu; intro z hz; simp at hz; rcases hz with rfl | rfl | rfl <;> rfl)) (by omega) (by have := hD.2.size; omega) ?_
     intro v' W' ho hk hm
     exact hK3 _ _ (.app rfl (by decide) trivial (⟨by obtain ⟨A2, c2, e, _⟩ := owns_form ho; exact ⟨A2, c2, e⟩, _, XO_next (x := (ct, pa, lk)) hD.1 HGN.out.ob hu hszn hlt HXE.out ho hk⟩))
    | 13, ho =>
     cases ho
     simp [Region.binds] at hd
     have v12 := hJ.val (by simp [hd] : L 12 = true) rfl fun _ h => h
     have l11 : L 11 = true := by simp [hd]
     obtain ⟨u, hu, hE⟩ := hJ.e l11 hL
     have v11 := hu 38 rfl
     clear hJ hd
     obtain ⟨⟨A2, c2, rfl⟩, ls2, hE⟩ := hE
     have z1 := hE.cell (f := 1) (u := .slice AN2 k cN2) rfl
     have f1 := frozen_of_row W g14 1 _ _ hE.box
     have HFF := Lib.hid ((⟨⟨A2, c2, rfl⟩, ls2, hE.put 1 _⟩ : (∃ A2 c2, _ = Value.slice A2 (k + 1) c2) ∧ ∃ ls2, GT w0 (w.heap.size + 1 + 1) g14 (BX.cells (XO g (.slice Aa13 g.sites.length ca13) (.slice Ab13 g.outer.length cb13) (.slice Ac13 g.inner.length cc13) (.slice A2 (k + 1) c2) ls2 (k + 1))) (XO g (.slice Aa13 g.sites.length ca13) (.slice Ab13 g.outer.length cb13) (.slice Ac13 g.inner.length cc13) (.slice A2 (k + 1) c2) ls2 (k + 1)) _))
     clear hE
     go_simp
     exact hK3 undef _ (.store rfl (by decide) trivial _ hu HFF.out)
    | q + 14, ho => simp at ho
  intro V W hF hV
  obtain ⟨v, hv, hF⟩ := hF
  have v11 : V 11 = v := hv 38 rfl
  have v0 : V 0 = _ := hV 0 27 rfl
  have v1 : V 1 = _ := hV 1 28 rfl
  have v2 : V 2 = _ := hV 2 29 rfl
  have v3 : V 3 = _ := hV 3 30 rfl
  have v4 : V 4 = _ := hV 4 31 rfl
  have v5 : V 5 = _ := hV 5 32 rfl
  have v6 : V 6 = _ := hV 6 33 rfl
  have v7 : V 7 = _ := hV 7 34 rfl
  obtain ⟨Au8, cu8, v8⟩ : ∃ Au cu, V 8 = .slice Au lk.length cu := hV 8 35 rfl
  obtain ⟨Au9, cu9, v9⟩ : ∃ Au cu, V 9 = .agg #[.int .i64 ct, .int .i64 pa, .slice Au lk.length cu] := hV 9 36 rfl
  obtain ⟨gz10, v10⟩ : ∃ gz, V 10 = .slice (some ⟨gz, 0, none⟩) 1 1 := hV 10 37 rfl
  have v12 : V 12 = _ := hV 12 39 rfl
  clear hV hv
  simp only [layV, List.setIfInBounds_toArray, List.set_cons_zero, List.set_cons_succ, v0, v1, v2, v3, v4, v5, v6, v7, v8, v9, v10, v12, v11]
  clear v0 v1 v2 v3 v4 v5 v6 v7 v8 v9 v10 v12 v11
  obtain ⟨⟨A2, c2, rfl⟩, ls2, hG⟩ := hF
  have HG2 := Lib.hid hG
  clear hG
  go_wp2_with fail
  go_roundw
  case rel => exact ⟨k + 1, _, _, by omega, by go_num, HG2.out⟩
  case measure => simp [intOf]; omega
 obtain rfl : g.nodes.length = k := by omega
 have hbx := HBX.out
 clear x1 hbx
 have y0 := HGT.out.cell (f := 0) (u := .int .i64 g.roots) rfl
 have y1 := HGT.out.cell (f := 1) (u := .slice AN2 g.nodes.length cN2) rfl
 have y2 := HGT.out.cell (f := 2) (u := .slice Aa13 g.sites.length ca13) rfl
 have y3 := HGT.out.cell (f := 3) (u := .int .i64 g.edges) rfl
 have y4 := HGT.out.cell (f := 4) (u := .slice Ab13 g.outer.length cb13) rfl
 have y5 := HGT.out.cell (f := 5) (u := .slice Ac13 g.inner.length cc13) rfl
 have hRW := HRR.out wr HBX.out
 obtain ⟨z0, z1, z2, z3, z4, z5, f0, f1, f2, f3, f4, f5⟩ := row6f hRW
 clear hRW
 go_wp2_with fail
 have hsz0 := HS0.out
 have hf := fin6R (X := (XO g (.slice Aa13 g.sites.length ca13) (.slice Ab13 g.outer.length cb13) (.slice Ac13 g.inner.length cc13) (.slice AN2 g.nodes.length cN2) ls g.nodes.length)) (w.heap.size + 1) HB0.out (by omega) HR0.out (HGT.out.k.mono fun q hq => by rcases hq with hq | hq <;> omega) HGT.out.ob
 (try simp only [Exit.inBlock, Exit.then])
 refine bodyPost_ret (results_cell_row rfl _ _ (w.heap.size + 1) _ _ _ _ rfl hf.1 Tryz.underlying31 rfl (by kernel_rfl)) rfl ?_
 exact ⟨_, rfl, XO_all, hf.2⟩

end Go.Proofs.YtijkdpdmclkmlaaGreatDoor
