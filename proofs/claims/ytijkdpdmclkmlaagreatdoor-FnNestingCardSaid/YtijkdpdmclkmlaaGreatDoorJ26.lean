/- relinked's function literal: what a link becomes: walked. -/
import Derived.Test.YtijkdpdmclkmlaaGreatDoorProg
import Derived.Test.YtijkdpdmclkmlaaGreatDoorJ0
import Derived.Test.YtijkdpdmclkmlaaGreatDoorJ22
import Derived.Test.YtijkdpdmclkmlaaGreatDoorJ24
import Derived.Test.YtijkdpdmclkmlaaGreatDoorJ25
import Derived.BigQuiet
import Derived.IntWalk
set_option linter.unusedSimpArgs false
set_option linter.unusedVariables false
set_option maxRecDepth 100000
set_option maxHeartbeats 16000000
namespace Go.Proofs.YtijkdpdmclkmlaaGreatDoor
open Go.RowKit
theorem atS_ge : ∀ (l : List ByteArray) (s : ByteArray), -1 ≤ atS l s
  | [], _ => by simp [atS]
  | x :: l, s => by
    have := atS_ge l s
    unfold atS
    split
    · omega
    split
    · omega
    omega
/-- What relinked's function literal has captured. -/
structure LkH (w : World) (g : Gr) (nv sv ov iv : Value) (pt pb pe po : Nat) (F : FuncId) (cap : Array Value) (edges : Int) (outs : List ByteArray) (Ao : Option Addr) (co : Nat) : Prop where
  fn : w.cell? ⟨pt, 0, none⟩ = some (.func (.func F) #[] cap)
  bx : w.heap[pb]? = some (.cells #[.int .i64 g.roots, nv, sv, .int .i64 g.edges, ov, iv] 31)
  rg : RGr w nv sv ov iv g
  ed : w.cell? ⟨pe, 0, none⟩ = some (.int .i64 edges)
  ou : w.cell? ⟨po, 4, none⟩ = some (.slice Ao outs.length co)
  oc : Cells w Ao (strs outs)
theorem LkH.below {w W : World} {g : Gr} {nv sv ov iv : Value} {pt pb pe po : Nat} {F : FuncId} {cap : Array Value} {edges : Int} {outs : List ByteArray} {Ao : Option Addr} {co : Nat} (h : LkH w g nv sv ov iv pt pb pe po F cap edges outs Ao co) (hb : Below w.heap.size w W) : LkH W g nv sv ov iv pt pb pe po F cap edges outs Ao co :=
  ⟨cell_below hb h.fn (lt_of_cell h.fn), (hb.block _ (Array.getElem?_eq_some_iff.1 h.bx).1).trans h.bx, h.rg.below hb, cell_below hb h.ed (lt_of_cell h.ed), cell_below hb h.ou (lt_of_cell h.ou), h.oc.below hb⟩

theorem relinked1_any (g : Gr) (nv sv ov iv : Value) (pt pb pe po : Nat) (F : FuncId) (cap : Array Value) (edges : Int) (outs : List ByteArray) (Ao : Option Addr) (co : Nat) (turn : En → En) (l : Int) (w : World) (hs : SmallG g) (hl : LinkP g l) (hed : -1000000 ≤ edges ∧ edges ≤ 1000000) (hol : outs.length ≤ 1000000)
    (hH : LkH w g nv sv ov iv pt pb pe po F cap edges outs Ao co)
    (hF : ∀ (args : Array Value) (w : World), (callFunc F args).run Tryz.prog w = .ok (.enter F args) w)
    (hcall : ∀ (W : World), Below w.heap.size w W → Calls Tryz.prog F (#[enV (endG g l)] ++ cap) W fun r W' => r = .returned (enV (turn (endG g l))) ∧ Below W.heap.size W W') :
    Calls Tryz.prog 253 #[.int .i64 l, .pointer (some ⟨pt, 0, none⟩), .pointer (some ⟨pb, 0, none⟩), .pointer (some ⟨pe, 0, none⟩), .pointer (some ⟨po, 0, none⟩)] w fun r w' => r = .returned (.int .i64 (toLink edges outs (turn (endG g l)))) ∧ Below w.heap.size w w' := by
  obtain ⟨AN, cN, AS, cS, AO, cO, AI, cI, rfl, rfl, rfl, rfl⟩ := hH.rg.form
  have HH := Lib.hid (show ∀ W, Below w.heap.size w W → LkH W g _ _ _ _ pt pb pe po F cap edges outs Ao co from fun W hb => hH.below hb)
  have HC := Lib.hid hcall
  have HSM := Lib.hid hs
  have HL := Lib.hid hl
  obtain ⟨n2, s2, hns⟩ : ∃ n2 s2, turn (endG g l) = (n2, s2) := ⟨_, _, rfl⟩
  have HNS := Lib.hid hns
  have hat : -1 ≤ atS outs s2 := atS_ge outs s2
  have hau : atS outs s2 < outs.length ∨ atS outs s2 = -1 := by
    by_cases hm : s2 ∈ outs
    · exact .inl (atS_lt hm)
    exact .inr (atS_none fun j hj e => hm (by rw [← e]; simp [List.getD, hj]))
  have hau2 : atS outs s2 ≤ 1000000 := by omega
  obtain ⟨ai, hai⟩ : ∃ ai, ai = atS outs s2 := ⟨_, rfl⟩
  rw [← hai] at hat hau2
  have HAI := Lib.hid hai
  obtain ⟨he1, he2⟩ := hed
  clear hH hcall hs hl hns hau hai
  go_enter Tryz.func253, Tryz.ntmps253
  go_wp2_with fail
  refine wp_region_tail (by kernel_rfl) 6 _ rfl [some 8, some 9, some 10, some 11, some 12, some 7, none] (fun q v W => match q with | 0 => v = .func (.func F) #[] cap | 1 => v = .agg #[.int .i64 g.roots, .slice AN g.nodes.length cN, .slice AS g.sites.length cS, .int .i64 g.edges, .slice AO g.outer.length cO, .slice AI g.inner.length cI] | 2 => v = .int .i64 l | 3 => v = enV (endG g l) | 4 => v = enV (turn (endG g l)) | 5 => ∃ g : Nat, v = .pointer (some ⟨g, 0, none⟩) ∧ w.heap.size ≤ g ∧ W.heap[g]? = some (.cells #[.int .i64 0, .string ⟨#[]⟩] 135) | _ => True) (by kernel_rfl) (by kernel_rfl) (by kernel_rfl) rfl ?m1o ?s1t ?t1a
  case m1o =>
    intro q v W W' hb h
    match q, h with
    | 0, h | 1, h | 2, h | 3, h | 4, h => exact h
    | 5, h => exact (by obtain ⟨g, e, h1, h2⟩ := h; exact ⟨g, e, h1, (hb.block g (Array.getElem?_eq_some_iff.1 h2).1).trans h2⟩)
    | q + 6, _ => trivial
  case s1t =>
    as_aux_lemma =>
      intro L act W q oo hJ hqn ho hd K3 hK3
      match q, ho with
      | 0, ho =>
        cases ho
        have hbW := hJ.bel
        have a1 : act.tmps[1]? = some _ := hJ.out 1 (by decide)
        clear hJ hd
        have c0 := (HH.out W hbW).fn
        go_simp
        exact hK3 _ _ (Below.refl _ _) rfl
      | 1, ho =>
        cases ho
        have hbW := hJ.bel
        have a2 : act.tmps[2]? = some _ := hJ.out 2 (by decide)
        clear hJ hd
        have bxg := (HH.out W hbW).bx
        obtain ⟨x0, x1, x2, x3, x4, x5⟩ := row6 bxg
        clear bxg
        go_simp
        exact hK3 _ _ (Below.refl _ _) rfl
      | 2, ho =>
        cases ho
        have hbW := hJ.bel
        have a0 : act.tmps[0]? = some _ := hJ.out 0 (by decide)
        clear hJ hd
        go_simp
        exact hK3 _ _ (Below.refl _ _) rfl
      | 3, ho =>
        cases ho
        simp [Region.binds] at hd
        have hbW := hJ.bel
        have v1 := hJ.val (by simp [hd] : L 1 = true) rfl fun _ h => h
        have v2 := hJ.val (by simp [hd] : L 2 = true) rfl fun _ h => h
        clear hJ hd
        have HBW := Lib.hid hbW
        clear hbW
        go_simp
        go_at_call 192
        refine (endOf_any g _ _ _ _ l W HSM.out HL.out (HH.out W HBW.out).rg).mono ?_
        rintro e W' ⟨rfl, hb⟩
        go_simp
        exact hK3 _ _ hb rfl
      | 4, ho =>
        cases ho
        simp [Region.binds] at hd
        have hbW := hJ.bel
        have v0 := hJ.val (by simp [hd] : L 0 = true) rfl fun _ h => h
        have v3 := hJ.val (by simp [hd] : L 3 = true) rfl fun _ h => h
        clear hJ hd
        have HBW := Lib.hid hbW
        clear hbW
        go_simp
        refine (HC.out W HBW.out).mono ?_
        rintro e W' ⟨rfl, hb⟩
        go_simp
        exact hK3 _ _ hb rfl
      | 5, ho =>
        cases ho
        have hbW := hJ.bel
        clear hJ hd
        have hsz := hbW.size
        go_simp
        exact hK3 _ _ ((Below.refl _ _).alloc (Nat.le_refl _) _) ⟨_, rfl, by omega, heap_alloc_new _ _⟩
      | 6, _ => exact absurd rfl hqn
      | q + 7, ho => simp at ho
  intro V W hbW hV K3 hK3
  have v0 : V 0 = _ := hV 0 8 rfl
  have v1 : V 1 = _ := hV 1 9 rfl
  have v2 : V 2 = _ := hV 2 10 rfl
  have v3 : V 3 = _ := hV 3 11 rfl
  have v4 : V 4 = _ := hV 4 12 rfl
  obtain ⟨g5, v5, hr5⟩ : ∃ g : Nat, V 5 = .pointer (some ⟨g, 0, none⟩) ∧ w.heap.size ≤ g ∧ W.heap[g]? = some (.cells #[.int .i64 0, .string ⟨#[]⟩] 135) := hV 5 7 rfl
  clear hV
  rw [HNS.out] at v4
  have hRW := hr5.2
  have z0 : World.cell? W ⟨g5, 0, none⟩ = some (.int .i64 0) := cell_of_row _ _ 0 _ _ _ hRW
  have z1 : World.cell? W ⟨g5, 1, none⟩ = some (.string ⟨#[]⟩) := cell_of_row _ _ 1 _ _ _ hRW
  have f0 := frozen_of_row W _ 0 _ _ hRW
  have f1 := frozen_of_row W _ 1 _ _ hRW
  have hW2 := heap_setCell_same _ g5 1 _ _ (.string s2) (heap_setCell_same W g5 0 _ _ (.int .i64 n2) hRW)
  have HFF := Lib.hid (show Below w.heap.size w ((W.setCell ⟨g5, 0, none⟩ (.int .i64 n2)).setCell ⟨g5, 1, none⟩ (.string s2)) ∧ ((W.setCell ⟨g5, 0, none⟩ (.int .i64 n2)).setCell ⟨g5, 1, none⟩ (.string s2)).heap[g5]? = some (.cells #[.int .i64 n2, .string s2] 135) from ⟨(hbW.setCell (by simp; exact hr5.1) _).setCell (by simp; exact hr5.1) _, hW2⟩)
  clear hRW hr5 hbW hW2
  simp only [layV, List.setIfInBounds_toArray, List.set_cons_zero, List.set_cons_succ, v0, v1, v2, v3, v4, v5] at hK3 ⊢
  clear v0 v1 v2 v3 v4 v5
  refine ⟨?_⟩
  go_simp
  refine hK3 _ ?_
  clear hK3 K3
  refine pull_world (T := fun W2 => Below w.heap.size w W2 ∧ W2.heap[g5]? = some (.cells #[.int .i64 n2, .string s2] 135)) HFF.out ?_
  rintro W2 ⟨hb2, hr2⟩
  clear HFF z0 z1 f0 f1
  have HB2 := Lib.hid hb2
  have y0 : World.cell? W2 ⟨g5, 0, none⟩ = some (.int .i64 n2) := cell_of_row _ _ 0 _ _ _ hr2
  have y1 : World.cell? W2 ⟨g5, 1, none⟩ = some (.string s2) := cell_of_row _ _ 1 _ _ _ hr2
  have HR2 := Lib.hid hr2
  clear hb2 hr2
  by_cases hsb : s2 = bE
  · subst hsb
    have HE := Lib.hid (show toLink edges outs (turn (endG g l)) = n2 from by rw [HNS.out]; unfold toLink; rw [if_pos rfl])
    clear HAI HNS
    unfold bE at *
    go_wp2_with fail
    go_ret
    exact ⟨by rw [HE.out]; rfl, HB2.out⟩
  have HE := Lib.hid (show toLink edges outs (turn (endG g l)) = edges + ai from by rw [HNS.out, HAI.out]; unfold toLink; rw [if_neg hsb])
  have hs2 : s2.toList ≠ [] := fun h => hsb (toList_inj (h.trans (by unfold bE; rw [ByteArray.toList_eq])))
  have hs3 : (!s2.toList.isEmpty) = true := by cases hq : s2.toList with | nil => exact absurd hq hs2 | cons _ _ => rfl
  have hs4 : s2.toList.isEmpty = false := by cases hq : s2.toList with | nil => exact absurd hq hs2 | cons _ _ => rfl
  clear hsb
  go_wp2_with fail
  refine wp_region_vals (by kernel_rfl) [some 18, some 19, some 20, some 21, some 22, some 23, some 24, some 6] (fun q v W => match q with | 0 => v = .int .i64 edges | 1 => v = .pointer (some ⟨po, 4, none⟩) | 2 => v = .slice Ao outs.length co | 3 => v = .pointer (some ⟨g5, 1, none⟩) | 4 => v = .string s2 | 5 => v = .int .i64 ai | 6 => v = .int .i64 (edges + ai) | 7 => v = .int .i64 (edges + ai) | _ => True) (by kernel_rfl) (by kernel_rfl) ?m2o ?s2t ?f2i
  case m2o =>
    intro q v W W' hb h
    match q, h with
    | 0, h | 1, h | 2, h | 3, h | 4, h | 5, h | 6, h | 7, h => exact h
    | q + 8, _ => trivial
  case s2t =>
    intro L act W q oo hJ ho hd K3 hK3
    match q, ho with
    | 0, ho =>
      cases ho
      have hbW := hJ.bel
      have a3 : act.tmps[3]? = some _ := hJ.out 3 (by decide)
      clear hJ hd
      have c0 := (HH.out W (HB2.out.trans (hbW.mono HB2.out.size))).ed
      go_simp
      exact hK3 _ _ (Below.refl _ _) rfl
    | 1, ho =>
      cases ho
      have hbW := hJ.bel
      have a4 : act.tmps[4]? = some _ := hJ.out 4 (by decide)
      clear hJ hd
      go_simp
      exact hK3 _ _ (Below.refl _ _) rfl
    | 2, ho =>
      cases ho
      simp [Region.binds] at hd
      have hbW := hJ.bel
      have v1 := hJ.val (by simp [hd] : L 1 = true) rfl fun _ h => h
      clear hJ hd
      have c0 := (HH.out W (HB2.out.trans (hbW.mono HB2.out.size))).ou
      go_simp
      exact hK3 _ _ (Below.refl _ _) rfl
    | 3, ho =>
      cases ho
      have hbW := hJ.bel
      have a7 : act.tmps[7]? = some _ := hJ.out 7 (by decide)
      clear hJ hd
      go_simp
      exact hK3 _ _ (Below.refl _ _) rfl
    | 4, ho =>
      cases ho
      simp [Region.binds] at hd
      have hbW := hJ.bel
      have v3 := hJ.val (by simp [hd] : L 3 = true) rfl fun _ h => h
      clear hJ hd
      have c0 : World.cell? W ⟨g5, 1, none⟩ = some (.string s2) := cell_of_row _ _ 1 _ _ _ ((hbW.block _ (Array.getElem?_eq_some_iff.1 HR2.out).1).trans HR2.out)
      go_simp
      exact hK3 _ _ (Below.refl _ _) rfl
    | 5, ho =>
      cases ho
      simp [Region.binds] at hd
      have hbW := hJ.bel
      have v2 := hJ.val (by simp [hd] : L 2 = true) rfl fun _ h => h
      have v4 := hJ.val (by simp [hd] : L 4 = true) rfl fun _ h => h
      clear hJ hd
      have HBW := Lib.hid hbW
      clear hbW
      go_simp
      go_at_call 121
      refine ((show Calls Tryz.prog 121 #[.slice Ao outs.length co, .string s2] W (fun e w' => e = .returned (.int .i64 ai) ∧ Below W.heap.size W w') from by have h := indexS_any Ao co outs s2 W (by omega) (HH.out W (HB2.out.trans (HBW.out.mono HB2.out.size))).oc; rw [idx_atS, ← HAI.out] at h; exact h.mono (fun e w' h2 => ⟨h2.1, by rw [← h2.2]; exact Below.refl _ _⟩))).mono ?_
      rintro e W' ⟨rfl, hb⟩
      go_simp
      exact hK3 _ _ hb rfl
    | 6, ho =>
      cases ho
      simp [Region.binds] at hd
      have hbW := hJ.bel
      have v0 := hJ.val (by simp [hd] : L 0 = true) rfl fun _ h => h
      have v5 := hJ.val (by simp [hd] : L 5 = true) rfl fun _ h => h
      clear hJ hd
      have hwr : IntKind.i64.wrap (edges + ai) = edges + ai := IntWalk.i64_in _ (by omega)
      go_simp
      exact hK3 _ _ (Below.refl _ _) rfl
    | 7, ho =>
      cases ho
      simp [Region.binds] at hd
      have hbW := hJ.bel
      have v6 := hJ.val (by simp [hd] : L 6 = true) rfl fun _ h => h
      clear hJ hd
      go_simp
      exact hK3 _ _ (Below.refl _ _) rfl
    | q + 8, ho => simp at ho
  intro V W hbW hV
  have v0 : V 0 = _ := hV 0 18 rfl
  have v1 : V 1 = _ := hV 1 19 rfl
  have v2 : V 2 = _ := hV 2 20 rfl
  have v3 : V 3 = _ := hV 3 21 rfl
  have v4 : V 4 = _ := hV 4 22 rfl
  have v5 : V 5 = _ := hV 5 23 rfl
  have v6 : V 6 = _ := hV 6 24 rfl
  have v7 : V 7 = _ := hV 7 6 rfl
  clear hV
  simp only [layV, List.setIfInBounds_toArray, List.set_cons_zero, List.set_cons_succ, v0, v1, v2, v3, v4, v5, v6, v7]
  clear v0 v1 v2 v3 v4 v5 v6 v7
  have HB3 := Lib.hid (HB2.out.trans (hbW.mono HB2.out.size))
  clear hbW
  go_wp2_with fail
  go_ret
  exact ⟨by rw [HE.out]; rfl, HB3.out⟩

end Go.Proofs.YtijkdpdmclkmlaaGreatDoor
