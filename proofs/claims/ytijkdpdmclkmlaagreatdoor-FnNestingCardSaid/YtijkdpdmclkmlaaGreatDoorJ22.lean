/- Small functions of composition: what a link is, parents that are moved, function literals: walked. -/
import Derived.Test.YtijkdpdmclkmlaaGreatDoorProg
import Derived.Test.YtijkdpdmclkmlaaGreatDoorJ0
import Derived.Test.YtijkdpdmclkmlaaGreatDoorJ19
import Derived.Test.YtijkdpdmclkmlaaGreatDoorJ20
import Derived.Test.YtijkdpdmclkmlaaGreatDoorJ1
import Derived.Test.YtijkdpdmclkmlaaGreatDoorJ8
import Derived.Test.YtijkdpdmclkmlaaGreatDoorJ16
import Derived.Test.YtijkdpdmclkmlaaGreatDoorJ14
import Derived.Test.YtijkdpdmclkmlaaGreatDoorJ21
import Derived.BigQuiet
set_option linter.unusedSimpArgs false
set_option linter.unusedVariables false
set_option maxRecDepth 100000
set_option maxHeartbeats 16000000
namespace Go.Proofs.YtijkdpdmclkmlaaGreatDoor
open Go.RowKit
/-- What a point is linked to, as a value. -/
abbrev enV (e : En) : Value := .agg #[.int .i64 e.1, .string e.2]
theorem new_two (w : World) (a b : Obj) : ((w.alloc a).alloc b).heap[w.heap.size + 1]? = some b := by
 have h := heap_alloc_new (w.alloc a) b
 rw [World.size_alloc] at h
 exact h

theorem endOf_any (g : Gr) (nv sv ov iv : Value) (l : Int) (w : World) (hs : SmallG g) (hl : LinkP g l) (hG : RGr w nv sv ov iv g) :
  Calls Tryz.prog 192 #[.agg #[.int .i64 g.roots, nv, sv, .int .i64 g.edges, ov, iv], .int .i64 l] w fun e w' => e = .returned (enV (endG g l)) ∧ Below w.heap.size w w' := by
 have HG := Lib.hid (show ∀ W, Below w.heap.size w W → RGr W nv sv ov iv g from fun W hb => hG.below hb)
 have HSM := Lib.hid hs
 obtain ⟨AN, cN, AS, cS, AO, cO, AI, cI, rfl, rfl, rfl, rfl⟩ := hG.form
 obtain ⟨w0, hw0, hb0, hsz0, bx0⟩ := laid1 w (.cells #[.int .i64 g.roots, .slice AN g.nodes.length cN, .slice AS g.sites.length cS, .int .i64 g.edges, .slice AO g.outer.length cO, .slice AI g.inner.length cI] 31)
 have HX := Lib.hid (keepB bx0)
 have HB0 := Lib.hid hb0
 have HW0 := Lib.hid hw0
 obtain ⟨x0, x1, x2, x3, x4, x5⟩ := row6 bx0
 rw [hw0] at x0 x1 x2 x3 x4 x5
 have hl1 := hl.1
 have hl2 := hl.2
 have he := hs.edges
 have hol := hs.outer
 by_cases hlt : l < g.edges
 ·have HE := Lib.hid (show endG g l = (l, bE) from by unfold endG; rw [if_pos hlt])
  clear hs hl hG hb0 bx0 hw0 hsz0
  go_enter Tryz.func192, Tryz.ntmps192
  go_wp2_with fail
  refine bodyPost_ret (results_cell_row rfl _ _ (w.heap.size + 1) _ _ _ _ rfl (new_two w (.cells #[.int .i64 g.roots, .slice AN g.nodes.length cN, .slice AS g.sites.length cS, .int .i64 g.edges, .slice AO g.outer.length cO, .slice AI g.inner.length cI] 31) (.cells #[.int .i64 l, .string ⟨#[]⟩] 135)) Tryz.underlying135 rfl (by kernel_rfl)) rfl ?_
  exact ⟨by rw [HE.out]; rfl, ((Below.refl _ _).alloc (Nat.le_refl _) _).alloc (by simp) _⟩
 have HE := Lib.hid (show endG g l = (0, g.outer.getD (l - g.edges).toNat default) from by unfold endG; rw [if_neg hlt])
 obtain ⟨A', c', eO, hcO⟩ := (HG.out ((w.alloc (.cells #[.int .i64 g.roots, .slice AN g.nodes.length cN, .slice AS g.sites.length cS, .int .i64 g.edges, .slice AO g.outer.length cO, .slice AI g.inner.length cI] 31)).alloc (.cells #[.int .i64 0, .string ⟨#[]⟩] 135)) (((Below.refl _ _).alloc (Nat.le_refl _) _).alloc (by simp) _)).o
 cases eO
 have hlo : (l - g.edges).toNat < g.outer.length := by omega
 obtain ⟨b, o, rfl, hc⟩ := hcO.str hlo
 have k0 := hc _ hlo
 obtain ⟨s, hse⟩ : ∃ s, s = g.outer.getD (l - g.edges).toNat default := ⟨_, rfl⟩
 rw [← hse] at k0
 have HSE := Lib.hid hse
 have b0 : (0 : Int) ≤ l - g.edges := by omega
 have b1 : l - g.edges < (g.outer.length : Int) := by omega
 clear hs hl hG hb0 bx0 hw0 hsz0 hc hcO hse hlo
 go_enter Tryz.func192, Tryz.ntmps192
 go_wp2_with fail
 refine bodyPost_ret (results_cell_row rfl _ _ (w.heap.size + 1) _ _ _ _ rfl (new_two w (.cells #[.int .i64 g.roots, .slice AN g.nodes.length cN, .slice AS g.sites.length cS, .int .i64 g.edges, .slice (some ⟨b, o, none⟩) g.outer.length cO, .slice AI g.inner.length cI] 31) (.cells #[.int .i64 0, .string s] 135)) Tryz.underlying135 rfl (by kernel_rfl)) rfl ?_
 exact ⟨by rw [HE.out, ← HSE.out], ((Below.refl _ _).alloc (Nat.le_refl _) _).alloc (by simp) _⟩

theorem joined1_any (e : En) (w : World) : Calls Tryz.prog 220 #[enV e] w fun r w' => r = .returned (enV e) ∧ Below w.heap.size w w' := by
 obtain ⟨n, s⟩ := e
 go_enter Tryz.func220, Tryz.ntmps220
 go_wp2_with fail
 refine bodyPost_ret (results_cell_row rfl _ _ (w.heap.size + 1) _ _ _ _ rfl (new_two w (.cells #[.int .i64 n, .string s] 135) (.cells #[.int .i64 n, .string s] 135)) Tryz.underlying135 rfl (by kernel_rfl)) rfl ?_
 exact ⟨rfl, ((Below.refl _ _).alloc (Nat.le_refl _) _).alloc (by simp) _⟩

theorem joined2_any (a : Gr) (e : En) (pa pn : Nat) (F : FuncId) (cap : Array Value) (name : ByteArray → En) (w : World) (hae : -1000 ≤ a.edges ∧ a.edges ≤ 1000) (he : -1000 ≤ e.1 ∧ e.1 ≤ 1000)
  (ca : ∀ W, Below w.heap.size w W → W.cell? ⟨pa, 3, none⟩ = some (.int .i64 a.edges)) (cn : ∀ W, Below w.heap.size w W → W.cell? ⟨pn, 0, none⟩ = some (.func (.func F) #[] cap))
  (hF : ∀ (args : Array Value) (w : World), (callFunc F args).run Tryz.prog w = .ok (.enter F args) w)
  (hcall : ∀ (W : World), e.2 ≠ bE → Below w.heap.size w W → Calls Tryz.prog F (#[.string e.2] ++ cap) W fun r W' => r = .returned (enV (name e.2)) ∧ Below W.heap.size W W') :
  Calls Tryz.prog 221 #[enV e, .pointer (some ⟨pa, 0, none⟩), .pointer (some ⟨pn, 0, none⟩)] w fun r w' => r = .returned (enV (rightT a name e)) ∧ Below w.heap.size w w' := by
 obtain ⟨n, s⟩ := e
 obtain ⟨w0, hw0, hb0, -⟩ := laid2 w (.cells #[.int .i64 n, .string s] 135) (.cells #[.int .i64 0, .string ⟨#[]⟩] 135)
 have k3 := ca w0 hb0
 have kn := cn w0 hb0
 by_cases hs : s = bE
 ·subst hs
  have HE := Lib.hid (show rightT a name (n, bE) = (n + a.edges, bE) from by unfold rightT; rw [if_pos rfl])
  rw [hw0] at k3
  obtain ⟨h1, h2⟩ := hae
  obtain ⟨h3, h4⟩ := he
  replace h3 : -1000 ≤ n := h3
  replace h4 : n ≤ 1000 := h4
  clear hw0 hb0 ca cn hcall hF kn
  unfold bE at *
  go_enter Tryz.func221, Tryz.ntmps221
  go_wp2_with fail
  refine bodyPost_ret (results_cell_row rfl _ _ (w.heap.size + 1) _ _ _ _ rfl (new_two w (.cells #[.int .i64 n, .string ⟨#[]⟩] 135) (.cells #[.int .i64 (n + a.edges), .string ⟨#[]⟩] 135)) Tryz.underlying135 rfl (by kernel_rfl)) rfl ?_
  exact ⟨by rw [HE.out], ((Below.refl _ _).alloc (Nat.le_refl _) _).alloc (by simp) _⟩
 have HE := Lib.hid (show rightT a name (n, s) = name s from by unfold rightT; rw [if_neg hs])
 have hc0 := hcall w0 hs hb0
 obtain ⟨n2, s2, hns⟩ : ∃ n2 s2, name s = (n2, s2) := ⟨_, _, rfl⟩
 rw [hns] at hc0
 have HNS := Lib.hid hns
 have HC := Lib.hid hc0
 clear hc0 hns
 have hR0 : w0.heap[w.heap.size + 1]? = some (.cells #[.int .i64 0, .string ⟨#[]⟩] 135) := by rw [hw0]; exact new_two _ _ _
 have HRW := Lib.hid (show ∀ W, Below w0.heap.size w0 W → W.heap[w.heap.size + 1]? = some (.cells #[.int .i64 0, .string ⟨#[]⟩] 135) from fun W hb => (hb.block _ ((Array.getElem?_eq_some_iff.1 hR0).1)).trans hR0)
 have HB0 := Lib.hid hb0
 have HW0 := Lib.hid hw0
 have hs2 : s.toList ≠ [] := fun h => hs (toList_inj (h.trans (by unfold bE; rw [ByteArray.toList_eq])))
 have hs3 : (!s.toList.isEmpty) = true := by cases hq : s.toList with | nil => exact absurd hq hs2 | cons _ _ => rfl
 have hs4 : s.toList.isEmpty = false := by cases hq : s.toList with | nil => exact absurd hq hs2 | cons _ _ => rfl
 rw [hw0] at kn
 have hsz : w0.heap.size = w.heap.size + 1 + 1 := by rw [hw0]; simp
 have HSZ := Lib.hid hsz
 clear hw0 hb0 ca cn hcall k3 hae he hR0 hs hsz
 go_enter Tryz.func221, Tryz.ntmps221
 go_wp2_with fail
 rw [← HW0.out]
 (with_reducible refine HC.out.mono ?_)
 rintro r w1 ⟨rfl, hb⟩
 have hR := HRW.out w1 hb
 have HB1 := Lib.hid (HB0.out.trans (hb.mono HB0.out.size))
 have z0 : World.cell? w1 ⟨w.heap.size + 1, 0, none⟩ = some (.int .i64 0) := cell_of_row _ _ 0 _ _ _ hR
 have z1 : World.cell? w1 ⟨w.heap.size + 1, 1, none⟩ = some (.string ⟨#[]⟩) := cell_of_row _ _ 1 _ _ _ hR
 have f0 := frozen_of_row w1 _ 0 _ _ hR
 have f1 := frozen_of_row w1 _ 1 _ _ hR
 have HR := Lib.hid hR
 clear hb hR
 go_wp2_with fail
 have e0 := heap_setCell_same w1 (w.heap.size + 1) 0 _ _ (.int .i64 n2) HR.out
 have e1 := heap_setCell_same _ (w.heap.size + 1) 1 _ _ (.string s2) e0
 refine bodyPost_ret (results_cell_row rfl _ _ (w.heap.size + 1) _ _ _ _ rfl e1 Tryz.underlying135 rfl (by kernel_rfl)) rfl ?_
 exact ⟨by rw [HE.out, HNS.out]; rfl, (HB1.out.setCell (by simp) _).setCell (by simp) _⟩

theorem composed1_any (a : Gr) (pa : Nat) (AS : Option Addr) (cS : Nat) (p : Int) (w : World) (hp : 0 ≤ -1 - p ∧ -1 - p < a.sites.length) (hn : a.sites.length ≤ 1000)
  (ca : w.cell? ⟨pa, 2, none⟩ = some (.slice AS a.sites.length cS)) (hA : Cells w AS (ints a.sites)) :
  Calls Tryz.prog 190 #[.int .i64 p, .pointer (some ⟨pa, 0, none⟩)] w fun r w' => r = .returned (.int .i64 (underA a p)) ∧ Below w.heap.size w w' := by
 obtain ⟨h1, h2⟩ := hp
 have hlt : (-1 - p).toNat < a.sites.length := by omega
 obtain ⟨b, o, rfl, hc⟩ := hA.int hlt
 have k0 := hc _ hlt
 have HE := Lib.hid (show underA a p = a.sites.getD (-1 - p).toNat 0 from rfl)
 obtain ⟨y, hy⟩ : ∃ y, y = a.sites.getD (-1 - p).toNat 0 := ⟨_, rfl⟩
 rw [← hy] at k0 HE
 clear hc hA hy hlt
 go_enter Tryz.func190, Tryz.ntmps190
 go_wp2_with fail
 go_ret
 exact ⟨by rw [HE.out]; rfl, Below.refl _ _⟩

theorem moved_any (a : Gr) (nv sv ov iv : Value) (p : Int) (F : FuncId) (cap : Array Value) (place : Int → Int) (w : World) (hs : SmallG a) (hp : p ≤ 1000000) (hG : RGr w nv sv ov iv a)
  (hF : ∀ (args : Array Value) (w : World), (callFunc F args).run Tryz.prog w = .ok (.enter F args) w)
  (hcall : ∀ (W : World), p < 0 → Below w.heap.size w W → Calls Tryz.prog F (#[.int .i64 p] ++ cap) W fun r W' => r = .returned (.int .i64 (place p)) ∧ Below W.heap.size W W') :
  Calls Tryz.prog 222 #[.agg #[.int .i64 a.roots, nv, sv, .int .i64 a.edges, ov, iv], .int .i64 p, .func (.func F) #[] cap] w fun r w' => r = .returned (.int .i64 (movedG a place p)) ∧ Below w.heap.size w w' := by
 obtain ⟨AN, cN, AS, cS, AO, cO, AI, cI, rfl, rfl, rfl, rfl⟩ := hG.form
 have hnl := hs.nodes
 obtain ⟨w0, hw0, hb0, -, bx0⟩ := laid1 w (.cells #[.int .i64 a.roots, .slice AN a.nodes.length cN, .slice AS a.sites.length cS, .int .i64 a.edges, .slice AO a.outer.length cO, .slice AI a.inner.length cI] 31)
 have HB0 := Lib.hid hb0
 have HW0 := Lib.hid hw0
 by_cases h0 : 0 ≤ p
 ·have HE := Lib.hid (show movedG a place p = p + a.nodes.length from by unfold movedG; rw [if_pos h0])
  have x1 := cell_of_row _ _ 1 _ _ _ bx0
  rw [hw0] at x1
  clear hs hG hF hcall hb0 bx0 hw0
  go_enter Tryz.func222, Tryz.ntmps222
  go_wp2_with fail
  rw [← HW0.out]
  go_ret
  exact ⟨by rw [HE.out]; rfl, HB0.out⟩
 have HE := Lib.hid (show movedG a place p = place p from by unfold movedG; rw [if_neg h0])
 have hlt : p < 0 := by omega
 have HC := Lib.hid (hcall w0 hlt hb0)
 clear hs hG hcall hb0 bx0 hw0
 go_enter Tryz.func222, Tryz.ntmps222
 go_wp2_with fail
 rw [← HW0.out]
 (with_reducible refine HC.out.mono ?_)
 rintro r w1 ⟨rfl, hb⟩
 have HB1 := Lib.hid (HB0.out.trans (hb.mono HB0.out.size))
 clear hb
 go_wp2_with fail
 go_ret
 exact ⟨by rw [HE.out]; rfl, HB1.out⟩

theorem composed2_any (a : Gr) (nv sv ov iv : Value) (pa pn : Nat) (An : Option Addr) (cn : Nat) (s : ByteArray) (k : Nat) (w : World) (hs : SmallG a) (hk : k < a.inner.length) (hks : atS (innerN a) s = (k : Int)) (hl : LinkP a (wiA a k).2)
  (hG : ∀ W, Below w.heap.size w W → RGr W nv sv ov iv a) (ca : ∀ W, Below w.heap.size w W → W.heap[pa]? = some (.cells #[.int .i64 a.roots, nv, sv, .int .i64 a.edges, ov, iv] 31))
  (cn0 : ∀ W, Below w.heap.size w W → W.cell? ⟨pn, 0, none⟩ = some (.slice An a.inner.length cn)) (hN : ∀ W, Below w.heap.size w W → Cells W An (strs (innerN a))) :
  Calls Tryz.prog 191 #[.string s, .pointer (some ⟨pa, 0, none⟩), .pointer (some ⟨pn, 0, none⟩)] w fun r w' => r = .returned (enV (nameA a s)) ∧ Below w.heap.size w w' := by
 obtain ⟨AN, cN, AS, cS, AO, cO, AI, cI, rfl, rfl, rfl, rfl⟩ := (hG w (Below.refl _ _)).form
 have hil := hs.inner
 have HNE := Lib.hid (show nameA a s = endG a (wiA a k).2 from by unfold nameA; rw [hks, Int.toNat_natCast])
 have hnl : (innerN a).length = a.inner.length := by unfold innerN; rw [List.length_map]
 obtain ⟨w0, hw0, hb0, -, hR0⟩ := laid1 w (.cells #[.int .i64 0, .string ⟨#[]⟩] 135)
 have HIX := Lib.hid (show ∀ W, Below w.heap.size w W → Calls Tryz.prog 121 #[.slice An a.inner.length cn, .string s] W (fun e w' => e = .returned (.int .i64 (k : Int)) ∧ Below W.heap.size W w') from fun W hb => by
  have h := indexS_any An cn (innerN a) s W (by rw [hnl]; omega) (hN W hb)
  rw [idx_atS, hnl, hks] at h
  exact h.mono (fun e w' h2 => ⟨h2.1, by rw [← h2.2]; exact Below.refl _ _⟩))
 have HRW := Lib.hid (show ∀ W, Below w0.heap.size w0 W → W.heap[w.heap.size]? = some (.cells #[.int .i64 0, .string ⟨#[]⟩] 135) from fun W hb => (hb.block _ ((Array.getElem?_eq_some_iff.1 hR0).1)).trans hR0)
 have HCA := Lib.hid ca
 have HCN := Lib.hid cn0
 have HG := Lib.hid hG
 have HB0 := Lib.hid hb0
 have HW0 := Lib.hid hw0
 have HSM := Lib.hid hs
 have hwa := wi_at (hG w0 hb0).i hk
 obtain ⟨bi, oi, ci, eI, hj1, hj2⟩ := hwa
 clear hj1 hj2
 cases eI
 have HWI := Lib.hid (show ∀ W, Below w.heap.size w W → W.cell? ⟨bi, oi + k * 2 + 1, none⟩ = some (.int .i64 (wiA a k).2) from fun W hb => by
  obtain ⟨b', o', c', e, _, h2⟩ := wi_at (HG.out W hb).i hk
  cases e
  rw [show (wiA a k).2 = (a.inner[k]).2 from by unfold wiA; simp [List.getD, hk]]
  exact h2)
 obtain ⟨lk, hlk⟩ : ∃ lk, lk = (wiA a k).2 := ⟨_, rfl⟩
 rw [← hlk] at HWI HNE hl
 have HL := Lib.hid hl
 have b0 : (0 : Int) ≤ (k : Int) := by omega
 have b1 : (k : Int) < (a.inner.length : Int) := by omega
 clear hks hG ca cn0 hN hnl hb0 hR0 hw0 hs hlk hl hk
 go_enter Tryz.func191, Tryz.ntmps191
 go_wp2_with (rw [← HW0.out])
 refine wp_region_tail (by kernel_rfl) 10 _ rfl [some 5, some 6, some 7, some 8, some 9, some 10, some 11, some 12, some 13, some 14, none] (fun q v W => match q with | 0 => v = .agg #[.int .i64 a.roots, .slice AN a.nodes.length cN, .slice AS a.sites.length cS, .int .i64 a.edges, .slice AO a.outer.length cO, .slice (some ⟨bi, oi, none⟩) a.inner.length cI] | 1 => v = .pointer (some ⟨pa, 5, none⟩) | 2 => v = .slice (some ⟨bi, oi, none⟩) a.inner.length cI | 3 => v = .slice An a.inner.length cn | 4 => v = .string s | 5 => v = .int .i64 (k : Int) | 6 => v = .pointer (some ⟨bi, oi + k * 2, none⟩) | 7 => v = .pointer (some ⟨bi, oi + k * 2 + 1, none⟩) | 8 => v = .int .i64 lk | 9 => v = enV (endG a lk) | _ => True) (by kernel_rfl) (by kernel_rfl) (by kernel_rfl) rfl ?m1o ?s1t ?t1a
 case m1o =>
  intro q v W W' hb h
  match q, h with
  | 0, h | 1, h | 2, h | 3, h | 4, h | 5, h | 6, h | 7, h | 8, h | 9, h => exact h
  | q + 10, _ => trivial
 case s1t =>
  as_aux_lemma =>
   intro L act W q oo hJ hqn ho hd K3 hK3
   match q, ho with
   | 0, ho =>
    cases ho
    have hbW := hJ.bel
    have a1 : act.tmps[1]? = some _ := hJ.out 1 (by decide)
    clear hJ hd
    have bxa := HCA.out W (HB0.out.trans (hbW.mono HB0.out.size))
    obtain ⟨x0, x1, x2, x3, x4, x5⟩ := row6 bxa
    clear bxa
    go_simp
    exact hK3 _ _ (Below.refl _ _) rfl
   | 1, ho =>
    cases ho
    have hbW := hJ.bel
    have a1 : act.tmps[1]? = some _ := hJ.out 1 (by decide)
    clear hJ hd
    go_simp
    exact hK3 _ _ (Below.refl _ _) rfl
   | 2, ho =>
    cases ho
    simp [Region.binds] at hd
    have hbW := hJ.bel
    have v1 := hJ.val (by simp [hd] : L 1 = true) rfl fun _ h => h
    clear hJ hd
    have bxa := HCA.out W (HB0.out.trans (hbW.mono HB0.out.size))
    have x5 : World.cell? W ⟨pa, 5, none⟩ = some (.slice (some ⟨bi, oi, none⟩) a.inner.length cI) := cell_of_row _ _ 5 _ _ _ bxa
    clear bxa
    go_simp
    exact hK3 _ _ (Below.refl _ _) rfl
   | 3, ho =>
    cases ho
    have hbW := hJ.bel
    have a2 : act.tmps[2]? = some _ := hJ.out 2 (by decide)
    clear hJ hd
    have n0 := HCN.out W (HB0.out.trans (hbW.mono HB0.out.size))
    go_simp
    exact hK3 _ _ (Below.refl _ _) rfl
   | 4, ho =>
    cases ho
    have hbW := hJ.bel
    have a0 : act.tmps[0]? = some _ := hJ.out 0 (by decide)
    clear hJ hd
    go_simp
    exact hK3 _ _ (Below.refl _ _) rfl
   | 5, ho =>
    cases ho
    simp [Region.binds] at hd
    have hbW := hJ.bel
    have v3 := hJ.val (by simp [hd] : L 3 = true) rfl fun _ h => h
    have v4 := hJ.val (by simp [hd] : L 4 = true) rfl fun _ h => h
    clear hJ hd
    have HBW := Lib.hid hbW
    clear hbW
    go_simp
    go_at_call 121
    refine (HIX.out W (HB0.out.trans (HBW.out.mono HB0.out.size))).mono ?_
    rintro e W' ⟨rfl, hb⟩
    go_simp
    exact hK3 _ _ hb rfl
   | 6, ho =>
    cases ho
    simp [Region.binds] at hd
    have hbW := hJ.bel
    have v2 := hJ.val (by simp [hd] : L 2 = true) rfl fun _ h => h
    have v5 := hJ.val (by simp [hd] : L 5 = true) rfl fun _ h => h
    clear hJ hd
    go_simp
    exact hK3 _ _ (Below.refl _ _) rfl
   | 7, ho =>
    cases ho
    simp [Region.binds] at hd
    have hbW := hJ.bel
    have v6 := hJ.val (by simp [hd] : L 6 = true) rfl fun _ h => h
    clear hJ hd
    go_simp
    exact hK3 _ _ (Below.refl _ _) rfl
   | 8, ho =>
    cases ho
    simp [Region.binds] at hd
    have hbW := hJ.bel
    have v7 := hJ.val (by simp [hd] : L 7 = true) rfl fun _ h => h
    clear hJ hd
    have k0 := HWI.out W (HB0.out.trans (hbW.mono HB0.out.size))
    go_simp
    exact hK3 _ _ (Below.refl _ _) rfl
   | 9, ho =>
    cases ho
    simp [Region.binds] at hd
    have hbW := hJ.bel
    have v0 := hJ.val (by simp [hd] : L 0 = true) rfl fun _ h => h
    have v8 := hJ.val (by simp [hd] : L 8 = true) rfl fun _ h => h
    clear hJ hd
    have HBW := Lib.hid hbW
    clear hbW
    go_simp
    go_at_call 192
    refine (endOf_any a _ _ _ _ lk W HSM.out HL.out (HG.out W (HB0.out.trans (HBW.out.mono HB0.out.size)))).mono ?_
    rintro e W' ⟨rfl, hb⟩
    go_simp
    exact hK3 _ _ hb rfl
   | 10, _ => exact absurd rfl hqn
   | q + 11, ho => simp at ho
 intro V W hbW hV K3 hK3
 have v0 : V 0 = _ := hV 0 5 rfl
 have v1 : V 1 = _ := hV 1 6 rfl
 have v2 : V 2 = _ := hV 2 7 rfl
 have v3 : V 3 = _ := hV 3 8 rfl
 have v4 : V 4 = _ := hV 4 9 rfl
 have v5 : V 5 = _ := hV 5 10 rfl
 have v6 : V 6 = _ := hV 6 11 rfl
 have v7 : V 7 = _ := hV 7 12 rfl
 have v8 : V 8 = _ := hV 8 13 rfl
 have v9 : V 9 = _ := hV 9 14 rfl
 clear hV
 have hRW := HRW.out W hbW
 have z0 : World.cell? W ⟨w.heap.size, 0, none⟩ = some (.int .i64 0) := cell_of_row _ _ 0 _ _ _ hRW
 have z1 : World.cell? W ⟨w.heap.size, 1, none⟩ = some (.string ⟨#[]⟩) := cell_of_row _ _ 1 _ _ _ hRW
 have f0 := frozen_of_row W _ 0 _ _ hRW
 have f1 := frozen_of_row W _ 1 _ _ hRW
 have HR := Lib.hid hRW
 have HBW := Lib.hid hbW
 obtain ⟨n2, s2, hns⟩ : ∃ n2 s2, endG a lk = (n2, s2) := ⟨_, _, rfl⟩
 have HNS := Lib.hid hns
 rw [hns] at v9
 clear hRW hbW hns
 simp only [layV, List.setIfInBounds_toArray, List.set_cons_zero, List.set_cons_succ, v0, v1, v2, v3, v4, v5, v6, v7, v8, v9] at hK3 ⊢
 clear v0 v1 v2 v3 v4 v5 v6 v7 v8 v9
 refine ⟨?_⟩
 go_simp
 refine hK3 _ ?_
 clear hK3 K3
 go_wp2_with fail
 have e0 := heap_setCell_same W w.heap.size 0 _ _ (.int .i64 n2) HR.out
 have e1 := heap_setCell_same _ w.heap.size 1 _ _ (.string s2) e0
 (try simp only [Exit.inBlock, Exit.then])
 refine bodyPost_ret (results_cell_row rfl _ _ w.heap.size _ _ _ _ rfl e1 Tryz.underlying135 rfl (by kernel_rfl)) rfl ?_
 exact ⟨by rw [HNE.out, HNS.out]; rfl, (((HB0.out.trans (HBW.out.mono HB0.out.size))).setCell (by simp) _).setCell (by simp) _⟩

end Go.Proofs.YtijkdpdmclkmlaaGreatDoor
