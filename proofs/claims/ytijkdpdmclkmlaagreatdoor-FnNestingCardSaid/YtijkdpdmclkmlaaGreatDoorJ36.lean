/- The reference: the nodes of a bigraph with others: walked. -/
import Derived.Test.YtijkdpdmclkmlaaGreatDoorProg
import Derived.Test.YtijkdpdmclkmlaaGreatDoorJ34
import Derived.Test.YtijkdpdmclkmlaaGreatDoorJ18
import Derived.Test.YtijkdpdmclkmlaaGreatDoorJ35
import Derived.BigQuiet
import Derived.IntWalk
set_option linter.unusedSimpArgs false
set_option linter.unusedVariables false
set_option maxRecDepth 100000
set_option maxHeartbeats 16000000
namespace Go.Proofs.YtijkdpdmclkmlaaGreatDoor
open Go.RowKit
theorem node_one4 (a b : Int) (A : Option Addr) (n c : Nat) : ∀ u ∈ ([.int .i64 a, .int .i64 b, .slice A n c] : List Value), u.oneCell' = true := by
 intro u hu; simp at hu; rcases hu with rfl | rfl | rfl <;> rfl
/-- A node more, whose links' row is its own. -/
theorem NT.app {W W' : World} {B : Nat} {nv v l : Value} {ns : List Nod} {ls : List Value} {x : Nod} (h : NT W B nv nilV ns ls) (hx : W.ownsRow B 3 1 l x.2.2.length (ints x.2.2)) (hd : ∀ b, l.ownBlock = some b → ∀ (i : Nat) m, ls[i]? = some m → m.ownBlock ≠ some b) (ho : W'.ownsRow B 88 3 v (ns.length + 1) (ncells ns ls ++ [.int .i64 x.1, .int .i64 x.2.1, l])) (hk : Kept (fun q => nv.ownBlock = some q) W W') : NT W' B v nilV (ns ++ [x]) (ls ++ [l]) := by
 have hlen := h.len
 refine { own := by rw [List.length_append, ncells_app x l hlen]; exact ho, len := by simp [hlen], lk := fun i m y hm hy => ?_, dis := fun i j m m' b hij hm hm' hb => ?_, sep := fun i m b hm hb e => by cases e }
 ·rcases Nat.lt_trichotomy i ls.length with hi | hi | hi
  ·rw [List.getElem?_append_left hi] at hm
   rw [List.getElem?_append_left (by omega)] at hy
   have ha := h.lk i m y hm hy
   exact ownsK ha hk (fun g hg => ownsA ha h.own (by decide) g hg)
  ·subst hi
   rw [List.getElem?_append_right (Nat.le_refl _), Nat.sub_self] at hm
   rw [hlen, List.getElem?_append_right (Nat.le_refl _), Nat.sub_self] at hy
   simp at hm hy
   subst hm
   subst hy
   exact ownsK hx hk (fun g hg => ownsA hx h.own (by decide) g hg)
  rw [List.getElem?_eq_none (by simp; omega)] at hm
  cases hm
 have hj : j ≤ ls.length := by
  have := (List.getElem?_eq_some_iff.1 hm').1
  simp at this
  omega
 rw [List.getElem?_append_left (by omega)] at hm
 rcases Nat.lt_or_eq_of_le hj with hj | hj
 ·rw [List.getElem?_append_left hj] at hm'
  exact h.dis i j m m' b hij hm hm' hb
 subst hj
 rw [List.getElem?_append_right (Nat.le_refl _), Nat.sub_self] at hm'
 simp at hm'
 subst hm'
 intro e
 exact hd b e i m hm hb
theorem NT.below {W W' : World} {B : Nat} {nv sv : Value} {ns : List Nod} {ls : List Value} (h : NT W B nv sv ns ls) (hb : Below W.heap.size W W') : NT W' B nv sv ns ls := h.kept (Kept.of_below hb (fun _ => False)) (fun _ _ h => h) (fun _ _ _ _ _ h => h)
theorem nt_nil (W : World) (B : Nat) (t : Nat) (h : W.ownsRow B 88 3 (.slice (some ⟨t, 0, none⟩) 0 0) 0 []) : NT W B (.slice (some ⟨t, 0, none⟩) 0 0) nilV [] [] :=
  { own := h, len := rfl, lk := fun i l x h => by simp at h, dis := fun i j l l' b _ h => by simp at h, sep := fun i l b h => by simp at h }
theorem take_next {α : Type} {l : List α} {k : Nat} {x : α} (h : l[k]? = some x) : l.take (k + 1) = l.take k ++ [x] := by rw [List.take_add_one, h]; rfl

theorem l4Nodes_any (g : Gr) (nv sv ov iv : Value) (by_ : Int) (A B : Option Addr) (c d : Nat) (ps links : List Int) (w : World) (hs : SmallG g) (hb : -1000000 ≤ by_ ∧ by_ ≤ 1000000) (hp : ∀ x ∈ g.nodes, (-1000000 ≤ x.2.1 ∧ x.2.1 ≤ 1000000) ∧ (x.2.1 < 0 → -1 - x.2.1 < ps.length)) (hl : ∀ x ∈ g.nodes, ∀ l ∈ x.2.2, 0 ≤ l ∧ l < links.length) (hll : links.length ≤ 1000000) (hA : Cells w A (ints ps)) (hB : Cells w B (ints links)) (hG : RGr w nv sv ov iv g) :
  Calls Tryz.prog 248 #[.agg #[.int .i64 g.roots, nv, sv, .int .i64 g.edges, ov, iv], .int .i64 by_, .slice A ps.length c, .slice B links.length d] w fun e w' => ∃ u ls, e = .returned u ∧ NT w' w.heap.size u nilV (nodesS g by_ ps links) ls ∧ Below w.heap.size w w' := by
 have HA := Lib.hid (show ∀ W, Below w.heap.size w W → Cells W A (ints ps) from fun W hb => hA.below hb)
 have HBL := Lib.hid (show ∀ W, Below w.heap.size w W → Cells W B (ints links) from fun W hb => hB.below hb)
 have HP := Lib.hid hp
 have HL := Lib.hid hl
 have HLK := Lib.hid hs.links
 have hsn := hs.nodes
 have HNL := Lib.hid (show (nodesS g by_ ps links).length = g.nodes.length from by unfold nodesS; rw [List.length_map])
 have HG := Lib.hid (show ∀ W, Below w.heap.size w W → RGr W nv sv ov iv g from fun W hb => hG.below hb)
 obtain ⟨AN, cN, AS, cS, AO, cO, AI, cI, rfl, rfl, rfl, rfl⟩ := hG.form
 obtain ⟨w0, hw0, hb0, hs0, bx0⟩ := laid1 w (.cells #[.int .i64 g.roots, .slice AN g.nodes.length cN, .slice AS g.sites.length cS, .int .i64 g.edges, .slice AO g.outer.length cO, .slice AI g.inner.length cI] 31)
 have HX := Lib.hid (keepB bx0)
 have HB0 := Lib.hid hb0
 have HW0 := Lib.hid hw0
 clear hA hB hs hl hp hG hb0 hw0 bx0
 go_enter Tryz.func248, Tryz.ntmps248
 go_wp2_with (rw [← HW0.out])
 go_loopw [9, 10] (fun v i wr => ∃ (k : Nat) (ls : List Value), k ≤ g.nodes.length ∧ i = .int .i64 k ∧ NT wr w0.heap.size v nilV ((nodesS g by_ ps links).take k) ls ∧ Below w0.heap.size w0 wr)
  (fun v i _ => g.nodes.length - (intOf i).toNat)
 case atStart => exact ⟨0, [], Nat.zero_le _, rfl, (by have h := nt_nil _ _ _ (ownsNew w0 [] 88 3 0 rfl (by decide)); rw [hs0] at h ⊢; exact h), (Below.refl _ _).alloc (Nat.le_refl _) _⟩
 obtain ⟨k, ls, hk, rfl, hnt, hbel⟩ := hrel
 have HTL := Lib.hid (show ((nodesS g by_ ps links).take k).length = k from by rw [List.length_take, HNL.out]; omega)
 obtain ⟨AL, cL, hv, _⟩ := owns_form hnt.own
 rw [HTL.out] at hv
 subst hv
 have HNT := Lib.hid hnt
 have HBE := Lib.hid hbel
 have hsz0 := hbel.size
 obtain ⟨x0, x1, x2, x3, x4, x5⟩ := row6 (HX.out wr hbel)
 obtain ⟨wq, hwq⟩ : ∃ wq, wq = wr := ⟨_, rfl⟩
 subst hwq
 clear hnt hbel
 by_cases hlt : k < g.nodes.length
 ·have hbw := HB0.out.trans (HBE.out.mono HB0.out.size)
  obtain ⟨b, o, c', AX, dX, eS, k0, k1, k2, hcX⟩ := nod_at (HG.out wq hbw).n hlt
  cases eS
  obtain ⟨x, hx⟩ : ∃ x, x = g.nodes[k] := ⟨_, rfl⟩
  have hxm : x ∈ g.nodes := by rw [hx]; exact List.getElem_mem hlt
  have HX1 := Lib.hid hx
  have HPX := Lib.hid (HP.out x hxm)
  have HLX := Lib.hid (HL.out x hxm)
  have hlx := HLK.out x hxm
  rw [← hx] at k0 k1 k2 hcX
  have HCX := Lib.hid (show ∀ W, Below wq.heap.size wq W → Cells W AX (ints x.2.2) from fun W hb => hcX.below hb)
  have HKC := Lib.hid (show ∀ W, Below wq.heap.size wq W → W.cell? ⟨b, o + k * 3, none⟩ = some (.int .i64 x.1) ∧ W.cell? ⟨b, o + k * 3 + 1, none⟩ = some (.int .i64 x.2.1) ∧ W.cell? ⟨b, o + k * 3 + 2, none⟩ = some (.slice AX x.2.2.length dX) from fun W hb => ⟨cell_below hb k0 (lt_of_cell k0), cell_below hb k1 (lt_of_cell k1), cell_below hb k2 (lt_of_cell k2)⟩)
  have hk1 : (k : Int) < (g.nodes.length : Int) := by omega
  clear hbw k0 k1 k2 hcX hx hxm
  go_wp2_with fail
  clear x0 x1 x2 x3 x4 x5
  go_loopw [11, 12] (fun v i wr => ∃ j : Nat, j ≤ x.2.2.length ∧ i = .int .i64 j ∧ wr.ownsRow wq.heap.size 3 1 v j (ints ((List.range j).map fun t : Nat => atI links (x.2.2.getD t 0))) ∧ Below wq.heap.size wq wr)
   (fun v i _ => x.2.2.length - (intOf i).toNat)
  case atStart => exact ⟨0, Nat.zero_le _, rfl, made_rowG wq 3, (Below.refl _ _).alloc (Nat.le_refl _) _⟩
  obtain ⟨j, hj, rfl, hown, hbel⟩ := hrel
  obtain ⟨AJ, cJ, rfl, hown⟩ := owns_form hown
  have HO := Lib.hid hown
  have HBQ := Lib.hid hbel
  have hsz := hbel.size
  obtain ⟨_, x1, _⟩ := row6 (HX.out wr (HBE.out.trans (hbel.mono HBE.out.size)))
  obtain ⟨k0, k1, k2⟩ := HKC.out wr hbel
  clear hown
  by_cases hlj : j < x.2.2.length
  ·have hlm := HLX.out _ (List.getElem_mem hlj)
   obtain ⟨b3, o3, rfl, hc3⟩ := (HCX.out wr hbel).int hlj
   have k3 := hc3 j hlj
   obtain ⟨m, hm⟩ := Int.eq_ofNat_of_zero_le hlm.1
   have hml : m < links.length := by have := hlm.2; omega
   have hgd : x.2.2.getD j 0 = (m : Int) := by rw [← hm]; simp [List.getD, hlj]
   have HGD := Lib.hid hgd
   rw [hgd] at k3
   obtain ⟨b2, o2, rfl, hc2⟩ := (HBL.out wr (HB0.out.trans ((HBE.out.trans (hbel.mono HBE.out.size)).mono HB0.out.size))).int hml
   have k4 := hc2 m hml
   obtain ⟨y, hy⟩ : ∃ y, y = links.getD m 0 := ⟨_, rfl⟩
   rw [← hy] at k4
   have HYE := Lib.hid (show atI links (x.2.2.getD j 0) = y from by rw [hgd, hy]; unfold atI; rw [Int.toNat_natCast])
   have hj1 : (j : Int) < (x.2.2.length : Int) := by omega
   have hm0 : (0 : Int) ≤ (m : Int) := by omega
   have hm1 : (m : Int) < (links.length : Int) := by omega
   clear hbel hlm hc3 hm hgd hc2 hy
   go_wp2_with (at_builtin; refine wpList_app el_intG rfl _ _ rfl wq.heap.size _ _ _ rfl HO.out [.int .i64 y] rfl rfl rfl (one1 rfl) (by omega) hsz ?_; intro v2 w2 ho hk2 hm2)
   have HO2 := Lib.hid (show w2.ownsRow wq.heap.size 3 1 v2 (j + 1) (ints ((List.range (j + 1)).map fun t : Nat => atI links (x.2.2.getD t 0))) from by rw [rm_succ, ints_app, HYE.out]; exact ho)
   have HB2 := Lib.hid (below_kept HBQ.out hk2 (fun q hq => (HO.out.lt q hq).1) hsz)
   clear ho hk2 hm2
   go_wp2_with fail
   go_roundw
   case rel => exact ⟨j + 1, by omega, by go_num, HO2.out, HB2.out⟩
   case measure => simp [intOf]; omega
  obtain rfl : j = x.2.2.length := by omega
  have HPA := Lib.hid (show ∀ W, Below wq.heap.size wq W → Calls Tryz.prog 164 #[.int .i64 x.2.1, .int .i64 by_, .slice A ps.length c] W (fun e w' => e = .returned (.int .i64 (parentS by_ ps x.2.1)) ∧ W = w') from fun W hbq => l4Parent_any x.2.1 by_ A c ps W HPX.out.1 hb HPX.out.2 (HA.out W (HB0.out.trans ((HBE.out.trans (hbq.mono HBE.out.size)).mono HB0.out.size))))
  obtain ⟨y, hy⟩ : ∃ y, y = parentS by_ ps x.2.1 := ⟨_, rfl⟩
  obtain ⟨L, hL⟩ : ∃ L, L = x.2.2.map (atI links) := ⟨_, rfl⟩
  obtain ⟨n, hn⟩ : ∃ n, n = x.2.2.length := ⟨_, rfl⟩
  rw [← hy] at HPA
  have HY := Lib.hid hy
  have HLL := Lib.hid hL
  have HLN := Lib.hid hn
  have HOL := Lib.hid (show wr.ownsRow wq.heap.size 3 1 (.slice AJ x.2.2.length cJ) x.2.2.length (ints L) from by rw [hL, map_getD 0 (atI links) x.2.2]; exact HO.out)
  have HNTR := Lib.hid (HNT.out.below hbel)
  have HNO := Lib.hid (show wr.ownsRow w0.heap.size 88 3 (.slice AL k cL) k (ncells ((nodesS g by_ ps links).take k) ls) from by have h := HNTR.out.own; rw [HTL.out] at h; exact h)
  have HNX := Lib.hid (show (nodesS g by_ ps links)[k]? = some (x.1, y, L) from by
   rw [hy, hL, HX1.out]; unfold nodesS; rw [List.getElem?_map, List.getElem?_eq_getElem hlt]; rfl)
  clear hbel hy hL hn HO hj hlj
  go_wp2_with fail
  clear x1 k0 k1 k2
  refine wp_region_x (by kernel_rfl) [some 48, some 49, some 50, some 51, some 52, some 53, some 54, some 55, some 56, some 57, some 58, some 59, some 60, some 61, some 62, some 63, some 64, some 65, some 66, some 67, some 9] [19] (fun q W W' => if q = 19 then Kept (fun b => ((Value.slice AL k cL)).ownBlock = some b) W W' else Below W.heap.size W W') (fun q v W => match q with | 0 => v = .slice AL k cL | 1 => v = .pointer (some ⟨w.heap.size, 1, none⟩) | 2 => v = .slice (some ⟨b, o, none⟩) g.nodes.length cN | 3 => v = .int .i64 (k : Int) | 4 => v = .pointer (some ⟨b, o + k * 3, none⟩) | 5 => v = .pointer (some ⟨b, o + k * 3, none⟩) | 6 => v = .int .i64 x.1 | 7 => v = .pointer (some ⟨w.heap.size, 1, none⟩) | 8 => v = .slice (some ⟨b, o, none⟩) g.nodes.length cN | 9 => v = .int .i64 (k : Int) | 10 => v = .pointer (some ⟨b, o + k * 3, none⟩) | 11 => v = .pointer (some ⟨b, o + k * 3 + 1, none⟩) | 12 => v = .int .i64 x.2.1 | 13 => v = .int .i64 by_ | 14 => v = .slice A ps.length c | 15 => v = .int .i64 y | 16 => v = .slice AJ x.2.2.length cJ | 17 => v = .agg #[.int .i64 x.1, .int .i64 y, .slice AJ x.2.2.length cJ] | 18 => ∃ gz, v = .slice (some ⟨gz, 0, none⟩) 1 1 ∧ LitAt (wr.heap.size) W gz (.cells #[.int .i64 x.1, .int .i64 y, .slice AJ x.2.2.length cJ] 88) | 19 => ∃ Ax cx, v = .slice Ax (k + 1) cx ∧ W.ownsRow w0.heap.size 88 3 (.slice Ax (k + 1) cx) (k + 1) (ncells ((nodesS g by_ ps links).take k) ls ++ [.int .i64 x.1, .int .i64 y, .slice AJ x.2.2.length cJ]) | 20 => ∃ Ax cx, v = .slice Ax (k + 1) cx ∧ W.ownsRow w0.heap.size 88 3 (.slice Ax (k + 1) cx) (k + 1) (ncells ((nodesS g by_ ps links).take k) ls ++ [.int .i64 x.1, .int .i64 y, .slice AJ x.2.2.length cJ]) | _ => True) (fun l W => match l with | [false] => Below wr.heap.size wr W | _ => Kept (fun b => ((Value.slice AL k cL)).ownBlock = some b) wr W) (by kernel_rfl) (by kernel_rfl) ?s1i ?r1e ?m1o (Below.refl _ _).drew ?s1t ?f1i
  case s1i => intro q W W' h; split at h <;> exact h.size
  case r1e => intro q W; split; exact Kept.refl _ _; exact Below.refl _ _
  case m1o =>
   intro e q v W W' hrc ht h
   have hk : Kept (fun b => b < wr.heap.size) W W' := by split at ht; exact ht.mono (fun b hb => ((HNO.out).lt b hb).2); exact Kept.of_below ht _
   match e, h with
   | 0, h | 1, h | 2, h | 3, h | 4, h | 5, h | 6, h | 7, h | 8, h | 9, h | 10, h | 11, h | 12, h | 13, h | 14, h | 15, h | 16, h | 17, h => exact h
   | 18, h => obtain ⟨x0, e, hr⟩ := h; exact ⟨x0, e, hr.kept hk⟩
   | 19, h => obtain ⟨x0, x1, e, hr⟩ := h; exact ⟨x0, x1, e, owns_below hr (by split at ht; (next hq => subst hq; rw [show reachB _ _ 19 19 = true from by kernel_rfl] at hrc; cases hrc); exact ht) (Nat.le_refl _)⟩
   | 20, h => obtain ⟨x0, x1, e, hr⟩ := h; exact ⟨x0, x1, e, owns_below hr (by split at ht; (next hq => subst hq; rw [show reachB _ _ 20 19 = true from by kernel_rfl] at hrc; cases hrc); exact ht) (Nat.le_refl _)⟩
   | q + 21, _ => trivial
  case s1t =>
   as_aux_lemma =>
   intro L act W q o h ho K3 hS hK
   match q, ho with
   | 0, ho =>
    cases ho
    have a9 : act.tmps[9]? = some _ := h.old 20 rfl (h.off 20 (by kernel_rfl))
    clear h hK
    go_simp
    exact hS rfl _ rfl
   | 1, ho | 7, ho =>
    cases ho
    have a4 : act.tmps[4]? = some _ := h.out 4 (by decide)
    clear h hK
    go_simp
    exact hS rfl _ rfl
   | 2, ho =>
    cases ho
    have v1 := h.val 1 rfl rfl fun _ h => h
    have hsz := h.size
    have hD := h.d
    have hn := h.off 19 (by kernel_rfl)
    simp only [List.map_cons, List.map_nil, hn] at hD
    have hbQ := HBQ.out.trans (hD.mono HBQ.out.size)
    obtain ⟨_, x1, _⟩ := row6 (HX.out W (HBE.out.trans (hbQ.mono HBE.out.size)))
    clear hbQ
    have HD := Lib.hid hD
    clear hD h hK
    go_simp
    exact hS rfl _ rfl
   | 3, ho | 9, ho =>
    cases ho
    have a10 : act.tmps[10]? = some _ := h.out 10 (by decide)
    clear h hK
    go_simp
    exact hS rfl _ rfl
   | 4, ho =>
    cases ho
    have v2 := h.val 2 rfl rfl fun _ h => h
    have v3 := h.val 3 rfl rfl fun _ h => h
    clear h hK
    go_simp
    exact hS rfl _ rfl
   | 5, ho =>
    cases ho
    have v4 := h.val 4 rfl rfl fun _ h => h
    clear h hK
    go_simp
    exact hS rfl _ rfl
   | 6, ho =>
    cases ho
    have v5 := h.val 5 rfl rfl fun _ h => h
    have hsz := h.size
    have hD := h.d
    have hn := h.off 19 (by kernel_rfl)
    simp only [List.map_cons, List.map_nil, hn] at hD
    obtain ⟨k0, k1, k2⟩ := HKC.out W (HBQ.out.trans (hD.mono HBQ.out.size))
    have HD := Lib.hid hD
    clear hD h hK
    go_simp
    exact hS rfl _ rfl
   | 8, ho =>
    cases ho
    have v7 := h.val 7 rfl rfl fun _ h => h
    have hsz := h.size
    have hD := h.d
    have hn := h.off 19 (by kernel_rfl)
    simp only [List.map_cons, List.map_nil, hn] at hD
    have hbQ := HBQ.out.trans (hD.mono HBQ.out.size)
    obtain ⟨_, x1, _⟩ := row6 (HX.out W (HBE.out.trans (hbQ.mono HBE.out.size)))
    clear hbQ
    have HD := Lib.hid hD
    clear hD h hK
    go_simp
    exact hS rfl _ rfl
   | 10, ho =>
    cases ho
    have v8 := h.val 8 rfl rfl fun _ h => h
    have v9 := h.val 9 rfl rfl fun _ h => h
    clear h hK
    go_simp
    exact hS rfl _ rfl
   | 11, ho =>
    cases ho
    have v10 := h.val 10 rfl rfl fun _ h => h
    clear h hK
    go_simp
    exact hS rfl _ rfl
   | 12, ho =>
    cases ho
    have v11 := h.val 11 rfl rfl fun _ h => h
    have hsz := h.size
    have hD := h.d
    have hn := h.off 19 (by kernel_rfl)
    simp only [List.map_cons, List.map_nil, hn] at hD
    obtain ⟨k0, k1, k2⟩ := HKC.out W (HBQ.out.trans (hD.mono HBQ.out.size))
    have HD := Lib.hid hD
    clear hD h hK
    go_simp
    exact hS rfl _ rfl
   | 13, ho =>
    cases ho
    have a1 : act.tmps[1]? = some _ := h.out 1 (by decide)
    clear h hK
    go_simp
    exact hS rfl _ rfl
   | 14, ho =>
    cases ho
    have a2 : act.tmps[2]? = some _ := h.out 2 (by decide)
    clear h hK
    go_simp
    exact hS rfl _ rfl
   | 15, ho =>
    cases ho
    have v12 := h.val 12 rfl rfl fun _ h => h
    have v13 := h.val 13 rfl rfl fun _ h => h
    have v14 := h.val 14 rfl rfl fun _ h => h
    have hsz := h.size
    have hD := h.d
    have hn := h.off 19 (by kernel_rfl)
    simp only [List.map_cons, List.map_nil, hn] at hD
    have HD := Lib.hid hD
    clear hD h hS
    go_simp
    go_at_call 164
    refine (HPA.out W (HBQ.out.trans (HD.out.mono HBQ.out.size))).mono ?_
    rintro e W' ⟨rfl, hw⟩
    have hb : Below W.heap.size W W' := by rw [← hw]; exact Below.refl _ _
    go_simp
    exact hK _ _ hb (rfl) (show (match [upd L 15 19] with | [false] => Below wr.heap.size wr _ | _ => Kept (fun b => ((Value.slice AL k cL)).ownBlock = some b) wr _) from by rw [show upd L 15 19 = false from hn]; exact HD.out.trans (hb.mono hsz))
   | 16, ho =>
    cases ho
    have a11 : act.tmps[11]? = some _ := h.out 11 (by decide)
    clear h hK
    go_simp
    exact hS rfl _ rfl
   | 17, ho =>
    cases ho
    have v6 := h.val 6 rfl rfl fun _ h => h
    have v15 := h.val 15 rfl rfl fun _ h => h
    have v16 := h.val 16 rfl rfl fun _ h => h
    clear h hK
    go_simp
    exact hS rfl _ rfl
   | 18, ho =>
    cases ho
    have v17 := h.val 17 rfl rfl fun _ h => h
    have hsz := h.size
    have hD := h.d
    have hn := h.off 19 (by kernel_rfl)
    simp only [List.map_cons, List.map_nil, hn] at hD
    have HD := Lib.hid hD
    clear hD h hS
    go_simp
    exact hK _ _ ((Below.refl _ _).alloc (Nat.le_refl _) _) ⟨_, rfl, .new hsz⟩ (show (match [upd L 18 19] with | [false] => Below wr.heap.size wr _ | _ => Kept (fun b => ((Value.slice AL k cL)).ownBlock = some b) wr _) from by rw [show upd L 18 19 = false from hn]; exact HD.out.alloc hsz _)
   | 19, ho =>
    cases ho
    have v0 := h.val 0 rfl rfl fun _ h => h
    obtain ⟨_, v18, gz18, rfl, hr18⟩ := h.has 18 rfl rfl
    have hsz := h.size
    have hD := h.d
    have hn := h.off 19 (by kernel_rfl)
    simp only [List.map_cons, List.map_nil, hn] at hD
    clear h hS
    have hg2 := hr18.at_
    have hown := owns_below (HNO.out) hD (Nat.le_refl _)
    refine step_appM el_nodG rfl (.tmp 48) (.tmp 66) rfl w0.heap.size ((.slice AL k cL)) k (ncells ((nodesS g by_ ps links).take k) ls) (by simp [Act.eval, *]) hown ⟨gz18, 0, none⟩ 1 1 [.int .i64 x.1, .int .i64 y, .slice AJ x.2.2.length cJ] (by simp [Act.eval, *]) (by decide) rfl (fun j' u' hj' => by rw [show (⟨gz18, 0, none⟩ : Addr).add j' = ⟨gz18, j', none⟩ from by simp [Addr.add, eq_comm], cell_of_row W gz18 _ _ _ _ hg2]; simpa using hj') (node_one4 _ _ _ _ _) (by omega) (by have := HBQ.out.size; omega) ?_
    intro v' W' ho hk hm
    obtain ⟨Ax, cx, rfl, ho⟩ := owns_form ho
    exact hK _ _ (show (if 19 = 19 then Kept (fun b => ((Value.slice AL k cL)).ownBlock = some b) W W' else _) from by rw [if_pos rfl]; exact hk) ⟨_, _, rfl, ho⟩ ((Kept.of_below hD _).trans hk)
   | 20, ho =>
    cases ho
    obtain ⟨_, v19, Ax19, cx19, rfl, hr19⟩ := h.has 19 rfl rfl
    clear h hK
    go_simp
    exact hS rfl _ ⟨_, _, rfl, hr19⟩
   | q + 21, ho => simp at ho
  intro V W hsW HD0 hV
  have v0 : V 0 = _ := hV 0 48 rfl
  have v1 : V 1 = _ := hV 1 49 rfl
  have v2 : V 2 = _ := hV 2 50 rfl
  have v3 : V 3 = _ := hV 3 51 rfl
  have v4 : V 4 = _ := hV 4 52 rfl
  have v5 : V 5 = _ := hV 5 53 rfl
  have v6 : V 6 = _ := hV 6 54 rfl
  have v7 : V 7 = _ := hV 7 55 rfl
  have v8 : V 8 = _ := hV 8 56 rfl
  have v9 : V 9 = _ := hV 9 57 rfl
  have v10 : V 10 = _ := hV 10 58 rfl
  have v11 : V 11 = _ := hV 11 59 rfl
  have v12 : V 12 = _ := hV 12 60 rfl
  have v13 : V 13 = _ := hV 13 61 rfl
  have v14 : V 14 = _ := hV 14 62 rfl
  have v15 : V 15 = _ := hV 15 63 rfl
  have v16 : V 16 = _ := hV 16 64 rfl
  have v17 : V 17 = _ := hV 17 65 rfl
  obtain ⟨gz18, v18, hr18⟩ := hV 18 66 rfl
  obtain ⟨Ax19, cx19, v19, hr19⟩ := hV 19 67 rfl
  obtain ⟨Ax20, cx20, v20, hr20⟩ := hV 20 9 rfl
  have HKW := Lib.hid (show Kept (fun b => ((Value.slice AL k cL)).ownBlock = some b) wr W from HD0)
  clear hV HD0
  simp only [layV, List.setIfInBounds_toArray, List.set_cons_zero, List.set_cons_succ, v0, v1, v2, v3, v4, v5, v6, v7, v8, v9, v10, v11, v12, v13, v14, v15, v16, v17, v18, v19, v20]
  clear v0 v1 v2 v3 v4 v5 v6 v7 v8 v9 v10 v11 v12 v13 v14 v15 v16 v17 v18 v19 v20
  have HOWN := Lib.hid hr20
  have HN2 := Lib.hid (NT.app (x := (x.1, y, L)) (l := .slice AJ x.2.2.length cJ) HNTR.out (by have h := owns_mono HOL.out hsz0; rw [show ((x.1, y, L) : Nod).2.2.length = x.2.2.length from by show L.length = _; rw [HLL.out, List.length_map]]; exact h) (fun b hb i m hm e => by
   have h1 := (HOL.out.lt b hb).1
   obtain ⟨_, _, h2⟩ := HNT.out.lkown hm
   have h3 := (h2.lt b e).2
   omega) (by rw [HTL.out]; exact HOWN.out) HKW.out)
  have HB2 := Lib.hid (below_kept (HBE.out.trans (HBQ.out.mono HBE.out.size)) HKW.out (fun q hq => (HNT.out.own.lt q hq).1) (by have := HBQ.out.size; omega))
  go_wp2_with fail
  go_roundw
  case rel => exact ⟨k + 1, ls ++ [.slice AJ x.2.2.length cJ], by omega, by go_num, by rw [take_next HNX.out]; exact HN2.out, HB2.out⟩
  case measure => simp [intOf]; omega
 obtain rfl : k = g.nodes.length := by omega
 go_wp2_with fail
 go_ret
 have h := HNT.out.mono (show w.heap.size ≤ w0.heap.size by omega)
 rw [List.take_of_length_le (by rw [HNL.out]; exact Nat.le_refl _)] at h
 exact ⟨_, ls, rfl, h, HB0.out.trans (HBE.out.mono HB0.out.size)⟩

end Go.Proofs.YtijkdpdmclkmlaaGreatDoor
