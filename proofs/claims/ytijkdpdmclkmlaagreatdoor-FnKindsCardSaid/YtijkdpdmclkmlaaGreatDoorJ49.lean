/- The law of kinds walked: it answers true for each drawn bigraph. -/
import Derived.Test.YtijkdpdmclkmlaaGreatDoorProg
import Derived.Test.YtijkdpdmclkmlaaGreatDoorJ48
import Derived.Test.YtijkdpdmclkmlaaGreatDoorJ43
import Derived.BigQuiet
set_option linter.unusedSimpArgs false
set_option linter.unusedVariables false
set_option linter.unusedSimpArgs false
namespace Go.Proofs.YtijkdpdmclkmlaaGreatDoor
open Go.RowKit

set_option maxRecDepth 100000 in
set_option maxHeartbeats 16000000 in
theorem lawFnKinds (A : Option Addr) (bs : List Int) (c : Nat) (w : World) (hA : Cells w A (u8s bs)) (hrng : ∀ x ∈ bs, 0 ≤ x ∧ x < 256) (hlen : bs.length ≤ maxLen) :
  Calls Tryz.prog 9 #[.slice A bs.length c] w fun e w' => e = .returned (.bool true) ∧ Below w.heap.size w w' := by
 have HB := Lib.hid (vBig_any A bs.length c w hlen)
 by_cases hbig : 65536 < bs.length
 ·rw [show decide (65536 < bs.length) = true from by simp [hbig]] at HB
  clear hbig hlen hA hrng
  go_enter Tryz.func9, Tryz.ntmps9
  go_wp2_with fail
  (with_reducible refine HB.out.mono ?_)
  rintro e w1 ⟨rfl, rfl⟩
  go_wp2_with fail
  go_ret
  exact ⟨rfl, Below.refl _ _⟩
 rw [show decide (65536 < bs.length) = false from by simp [hbig]] at HB
 have HD := Lib.hid (drawIsPlacing_any A bs c w hA hrng (by omega))
 clear hbig hlen hA hrng
 go_enter Tryz.func9, Tryz.ntmps9
 go_wp2_with fail
 (with_reducible refine HB.out.mono ?_)
 rintro e w' ⟨rfl, rfl⟩
 go_wp2_with fail
 (with_reducible refine HD.out.mono ?_)
 rintro e w1 ⟨gv, nv, sv, ov, iv, sig, g, rfl, hD0, hb1⟩
 have hD := hD0 w1 (Kept.refl _ _)
 clear HB HD hD0
 have HSM := Lib.hid hD.sm
 have HSZ := Lib.hid hD.sz
 have HCP := Lib.hid hD.cap
 obtain ⟨AN, cN, AS, cS, AO, cO, AI, cI, rfl, rfl, rfl, rfl⟩ := hD.rg.form
 obtain ⟨AG, cG, rfl, _⟩ := hD.sg.form
 obtain ⟨W1, hW1⟩ : ∃ W1, W1 = w1.alloc (.cells #[.int .i64 g.roots, .slice AN g.nodes.length cN, .slice AS g.sites.length cS, .int .i64 g.edges, .slice AO g.outer.length cO, .slice AI g.inner.length cI] 31) := ⟨_, rfl⟩
 have hba : Below w1.heap.size w1 W1 := by rw [hW1]; exact (Below.refl _ _).alloc (Nat.le_refl _) _
 have hsa : W1.heap.size = w1.heap.size + 1 := by rw [hW1]; simp
 have hxa : W1.heap[w1.heap.size]? = some (.cells #[.int .i64 g.roots, .slice AN g.nodes.length cN, .slice AS g.sites.length cS, .int .i64 g.edges, .slice AO g.outer.length cO, .slice AI g.inner.length cI] 31) := by rw [hW1]; exact heap_alloc_new w1 _
 have HBX := Lib.hid (show ∀ W, Below W1.heap.size W1 W → W.heap[w1.heap.size]? = some (.cells #[.int .i64 g.roots, .slice AN g.nodes.length cN, .slice AS g.sites.length cS, .int .i64 g.edges, .slice AO g.outer.length cO, .slice AI g.inner.length cI] 31) from fun W hW => (hW.block _ (by omega)).trans hxa)
 have HDG := Lib.hid (show ∀ W, Below W1.heap.size W1 W → DG W (.slice AG sig.length cG) (.slice AN g.nodes.length cN) (.slice AS g.sites.length cS) (.slice AO g.outer.length cO) (.slice AI g.inner.length cI) sig g from fun W hW => (hD.below hba).below hW)
 have HB1 := Lib.hid (hb1.trans (hba.mono hb1.size))
 have HS1 := Lib.hid (show w.heap.size ≤ W1.heap.size from by have := hb1.size; omega)
 have HZ := Lib.hid (Below.refl W1.heap.size W1)
 have HW1 := Lib.hid hW1
 clear hba hb1 hD hxa hW1 hsa
 obtain ⟨pl, hpl⟩ : ∃ b, placR sig g = b := ⟨_, rfl⟩
 obtain ⟨pm, hpm⟩ : ∃ b, permR sig g = b := ⟨_, rfl⟩
 obtain ⟨sm, hsm⟩ : ∃ b, identR sig g = b := ⟨_, rfl⟩
 obtain ⟨wi, hwi⟩ : ∃ b, wirR sig g = b := ⟨_, rfl⟩
 obtain ⟨op, hop⟩ : ∃ b, openR sig g = b := ⟨_, rfl⟩
 obtain ⟨rn, hrn⟩ : ∃ b, renR sig g = b := ⟨_, rfl⟩
 obtain ⟨di, hdi⟩ : ∃ b, discR sig g = b := ⟨_, rfl⟩
 obtain ⟨pr, hpr⟩ : ∃ b, primR sig g = b := ⟨_, rfl⟩
 obtain ⟨le, hle⟩ : ∃ b, leanR sig g = b := ⟨_, rfl⟩
 obtain ⟨gu, hgu⟩ : ∃ b, guardR sig g = b := ⟨_, rfl⟩
 have HLAW := Lib.hid (show (pm = true → pl = true) ∧ (rn = true → op = true ∧ di = true) ∧ (op = true → wi = true) ∧ (sm = true → di = true ∧ le = true ∧ (g.outer.length = 0 → pm = true)) from by rw [← hpl, ← hpm, ← hsm, ← hwi, ← hop, ← hrn, ← hdi, ← hle]; exact kinds_law sig g)
 have Hpl := Lib.hid hpl
 have Hpm := Lib.hid hpm
 have Hsm := Lib.hid hsm
 have Hwi := Lib.hid hwi
 have Hop := Lib.hid hop
 have Hrn := Lib.hid hrn
 have Hdi := Lib.hid hdi
 have Hpr := Lib.hid hpr
 have Hle := Lib.hid hle
 have Hgu := Lib.hid hgu
 clear hpl hpm hsm hwi hop hrn hdi hpr hle hgu
 go_wp2_with fail
 rw [← HW1.out]
 refine wp_region_vals (by kernel_rfl) [some 22, some 23, some 24, some 25, some 26, some 27, some 28, some 29, some 30, some 5, some 6, some 7] (fun q v W => match q with | 0 => v = .slice AG sig.length cG | 1 => v = .agg #[.int .i64 g.roots, .slice AN g.nodes.length cN, .slice AS g.sites.length cS, .int .i64 g.edges, .slice AO g.outer.length cO, .slice AI g.inner.length cI] | 2 => v = .bool pl | 3 => v = .slice AG sig.length cG | 4 => v = .agg #[.int .i64 g.roots, .slice AN g.nodes.length cN, .slice AS g.sites.length cS, .int .i64 g.edges, .slice AO g.outer.length cO, .slice AI g.inner.length cI] | 5 => v = .bool pm | 6 => v = .slice AG sig.length cG | 7 => v = .agg #[.int .i64 g.roots, .slice AN g.nodes.length cN, .slice AS g.sites.length cS, .int .i64 g.edges, .slice AO g.outer.length cO, .slice AI g.inner.length cI] | 8 => v = .bool sm | 9 => v = .bool pl | 10 => v = .bool pm | 11 => v = .bool sm | _ => True) (by kernel_rfl) (by kernel_rfl) ?mono ?step ?fin
 case mono =>
  intro q v W W' hb h
  match q, h with
  | 0, h => exact h
  | 1, h => exact h
  | 2, h => exact h
  | 3, h => exact h
  | 4, h => exact h
  | 5, h => exact h
  | 6, h => exact h
  | 7, h => exact h
  | 8, h => exact h
  | 9, h => exact h
  | 10, h => exact h
  | 11, h => exact h
  | q + 12, _ => trivial
 case step =>
  intro L act W q oo hJ ho hd K3 hK3
  match q, ho with
  | 0, ho =>
   simp only [List.getElem?_toArray, List.getElem?_cons_zero, List.getElem?_cons_succ, Option.some.injEq] at ho
   subst ho
   have hbW := hJ.bel
   have a3 : act.tmps[3]? = some (.slice AG sig.length cG) := hJ.out 3 (by decide)
   clear hJ hd
   go_simp
   exact hK3 _ _ (Below.refl _ _) rfl
  | 1, ho =>
   simp only [List.getElem?_toArray, List.getElem?_cons_zero, List.getElem?_cons_succ, Option.some.injEq] at ho
   subst ho
   have hbW := hJ.bel
   have a4 : act.tmps[4]? = some (.pointer (some ⟨w1.heap.size, 0, none⟩)) := hJ.out 4 (by decide)
   clear hJ hd
   have bxW := HBX.out W (HZ.out.trans (hbW.mono HZ.out.size))
   have p0 : World.cell? W ⟨w1.heap.size, 0, none⟩ = some (.int .i64 g.roots) := cell_of_row W _ 0 _ _ _ bxW
   have p1 : World.cell? W ⟨w1.heap.size, 1, none⟩ = some (.slice AN g.nodes.length cN) := cell_of_row W _ 1 _ _ _ bxW
   have p2 : World.cell? W ⟨w1.heap.size, 2, none⟩ = some (.slice AS g.sites.length cS) := cell_of_row W _ 2 _ _ _ bxW
   have p3 : World.cell? W ⟨w1.heap.size, 3, none⟩ = some (.int .i64 g.edges) := cell_of_row W _ 3 _ _ _ bxW
   have p4 : World.cell? W ⟨w1.heap.size, 4, none⟩ = some (.slice AO g.outer.length cO) := cell_of_row W _ 4 _ _ _ bxW
   have p5 : World.cell? W ⟨w1.heap.size, 5, none⟩ = some (.slice AI g.inner.length cI) := cell_of_row W _ 5 _ _ _ bxW
   clear bxW
   go_simp
   exact hK3 _ _ (Below.refl _ _) rfl
  | 2, ho =>
   simp only [List.getElem?_toArray, List.getElem?_cons_zero, List.getElem?_cons_succ, Option.some.injEq] at ho
   subst ho
   simp [Region.binds] at hd
   have hbW := hJ.bel
   have l0 : L 0 = true := by simp [hd]
   have v0 : act.tmps[22]? = some (.slice AG sig.length cG) := hJ.val l0 rfl (fun u h => h)
   have l1 : L 1 = true := by simp [hd]
   have v1 : act.tmps[23]? = some (.agg #[.int .i64 g.roots, .slice AN g.nodes.length cN, .slice AS g.sites.length cS, .int .i64 g.edges, .slice AO g.outer.length cO, .slice AI g.inner.length cI]) := hJ.val l1 rfl (fun u h => h)
   clear hJ hd
   have HBW := Lib.hid hbW
   clear hbW
   go_simp
   go_at_call 29
   refine (implIsPlacing_any sig g _ _ _ _ _ W HSM.out HSZ.out HCP.out (HDG.out W (HZ.out.trans (HBW.out.mono HZ.out.size))).sg (HDG.out W (HZ.out.trans (HBW.out.mono HZ.out.size))).rg).mono ?_
   rintro e W' ⟨rfl, hb⟩
   go_simp
   exact hK3 _ _ hb (by rw [Hpl.out]; first | done | rfl)
  | 3, ho =>
   simp only [List.getElem?_toArray, List.getElem?_cons_zero, List.getElem?_cons_succ, Option.some.injEq] at ho
   subst ho
   have hbW := hJ.bel
   have a3 : act.tmps[3]? = some (.slice AG sig.length cG) := hJ.out 3 (by decide)
   clear hJ hd
   go_simp
   exact hK3 _ _ (Below.refl _ _) rfl
  | 4, ho =>
   simp only [List.getElem?_toArray, List.getElem?_cons_zero, List.getElem?_cons_succ, Option.some.injEq] at ho
   subst ho
   have hbW := hJ.bel
   have a4 : act.tmps[4]? = some (.pointer (some ⟨w1.heap.size, 0, none⟩)) := hJ.out 4 (by decide)
   clear hJ hd
   have bxW := HBX.out W (HZ.out.trans (hbW.mono HZ.out.size))
   have p0 : World.cell? W ⟨w1.heap.size, 0, none⟩ = some (.int .i64 g.roots) := cell_of_row W _ 0 _ _ _ bxW
   have p1 : World.cell? W ⟨w1.heap.size, 1, none⟩ = some (.slice AN g.nodes.length cN) := cell_of_row W _ 1 _ _ _ bxW
   have p2 : World.cell? W ⟨w1.heap.size, 2, none⟩ = some (.slice AS g.sites.length cS) := cell_of_row W _ 2 _ _ _ bxW
   have p3 : World.cell? W ⟨w1.heap.size, 3, none⟩ = some (.int .i64 g.edges) := cell_of_row W _ 3 _ _ _ bxW
   have p4 : World.cell? W ⟨w1.heap.size, 4, none⟩ = some (.slice AO g.outer.length cO) := cell_of_row W _ 4 _ _ _ bxW
   have p5 : World.cell? W ⟨w1.heap.size, 5, none⟩ = some (.slice AI g.inner.length cI) := cell_of_row W _ 5 _ _ _ bxW
   clear bxW
   go_simp
   exact hK3 _ _ (Below.refl _ _) rfl
  | 5, ho =>
   simp only [List.getElem?_toArray, List.getElem?_cons_zero, List.getElem?_cons_succ, Option.some.injEq] at ho
   subst ho
   simp [Region.binds] at hd
   have hbW := hJ.bel
   have l3 : L 3 = true := by simp [hd]
   have v3 : act.tmps[25]? = some (.slice AG sig.length cG) := hJ.val l3 rfl (fun u h => h)
   have l4 : L 4 = true := by simp [hd]
   have v4 : act.tmps[26]? = some (.agg #[.int .i64 g.roots, .slice AN g.nodes.length cN, .slice AS g.sites.length cS, .int .i64 g.edges, .slice AO g.outer.length cO, .slice AI g.inner.length cI]) := hJ.val l4 rfl (fun u h => h)
   clear hJ hd
   have HBW := Lib.hid hbW
   clear hbW
   go_simp
   go_at_call 28
   refine (implIsPermutation_any sig g _ _ _ _ _ W HSM.out HSZ.out HCP.out (HDG.out W (HZ.out.trans (HBW.out.mono HZ.out.size))).sg (HDG.out W (HZ.out.trans (HBW.out.mono HZ.out.size))).rg).mono ?_
   rintro e W' ⟨rfl, hb⟩
   go_simp
   exact hK3 _ _ hb (by rw [Hpm.out]; first | done | rfl)
  | 6, ho =>
   simp only [List.getElem?_toArray, List.getElem?_cons_zero, List.getElem?_cons_succ, Option.some.injEq] at ho
   subst ho
   have hbW := hJ.bel
   have a3 : act.tmps[3]? = some (.slice AG sig.length cG) := hJ.out 3 (by decide)
   clear hJ hd
   go_simp
   exact hK3 _ _ (Below.refl _ _) rfl
  | 7, ho =>
   simp only [List.getElem?_toArray, List.getElem?_cons_zero, List.getElem?_cons_succ, Option.some.injEq] at ho
   subst ho
   have hbW := hJ.bel
   have a4 : act.tmps[4]? = some (.pointer (some ⟨w1.heap.size, 0, none⟩)) := hJ.out 4 (by decide)
   clear hJ hd
   have bxW := HBX.out W (HZ.out.trans (hbW.mono HZ.out.size))
   have p0 : World.cell? W ⟨w1.heap.size, 0, none⟩ = some (.int .i64 g.roots) := cell_of_row W _ 0 _ _ _ bxW
   have p1 : World.cell? W ⟨w1.heap.size, 1, none⟩ = some (.slice AN g.nodes.length cN) := cell_of_row W _ 1 _ _ _ bxW
   have p2 : World.cell? W ⟨w1.heap.size, 2, none⟩ = some (.slice AS g.sites.length cS) := cell_of_row W _ 2 _ _ _ bxW
   have p3 : World.cell? W ⟨w1.heap.size, 3, none⟩ = some (.int .i64 g.edges) := cell_of_row W _ 3 _ _ _ bxW
   have p4 : World.cell? W ⟨w1.heap.size, 4, none⟩ = some (.slice AO g.outer.length cO) := cell_of_row W _ 4 _ _ _ bxW
   have p5 : World.cell? W ⟨w1.heap.size, 5, none⟩ = some (.slice AI g.inner.length cI) := cell_of_row W _ 5 _ _ _ bxW
   clear bxW
   go_simp
   exact hK3 _ _ (Below.refl _ _) rfl
  | 8, ho =>
   simp only [List.getElem?_toArray, List.getElem?_cons_zero, List.getElem?_cons_succ, Option.some.injEq] at ho
   subst ho
   simp [Region.binds] at hd
   have hbW := hJ.bel
   have l6 : L 6 = true := by simp [hd]
   have v6 : act.tmps[28]? = some (.slice AG sig.length cG) := hJ.val l6 rfl (fun u h => h)
   have l7 : L 7 = true := by simp [hd]
   have v7 : act.tmps[29]? = some (.agg #[.int .i64 g.roots, .slice AN g.nodes.length cN, .slice AS g.sites.length cS, .int .i64 g.edges, .slice AO g.outer.length cO, .slice AI g.inner.length cI]) := hJ.val l7 rfl (fun u h => h)
   clear hJ hd
   have HBW := Lib.hid hbW
   clear hbW
   go_simp
   go_at_call 27
   refine (implIsIdentity_any sig g _ _ _ _ _ W HSM.out HSZ.out HCP.out (HDG.out W (HZ.out.trans (HBW.out.mono HZ.out.size))).sg (HDG.out W (HZ.out.trans (HBW.out.mono HZ.out.size))).rg).mono ?_
   rintro e W' ⟨rfl, hb⟩
   go_simp
   exact hK3 _ _ hb (by rw [Hsm.out]; first | done | rfl)
  | 9, ho =>
   simp only [List.getElem?_toArray, List.getElem?_cons_zero, List.getElem?_cons_succ, Option.some.injEq] at ho
   subst ho
   simp [Region.binds] at hd
   have hbW := hJ.bel
   have l2 : L 2 = true := by simp [hd]
   have v2 : act.tmps[24]? = some (.bool pl) := hJ.val l2 rfl (fun u h => h)
   clear hJ hd
   go_simp
   exact hK3 _ _ (Below.refl _ _) rfl
  | 10, ho =>
   simp only [List.getElem?_toArray, List.getElem?_cons_zero, List.getElem?_cons_succ, Option.some.injEq] at ho
   subst ho
   simp [Region.binds] at hd
   have hbW := hJ.bel
   have l5 : L 5 = true := by simp [hd]
   have v5 : act.tmps[27]? = some (.bool pm) := hJ.val l5 rfl (fun u h => h)
   clear hJ hd
   go_simp
   exact hK3 _ _ (Below.refl _ _) rfl
  | 11, ho =>
   simp only [List.getElem?_toArray, List.getElem?_cons_zero, List.getElem?_cons_succ, Option.some.injEq] at ho
   subst ho
   simp [Region.binds] at hd
   have hbW := hJ.bel
   have l8 : L 8 = true := by simp [hd]
   have v8 : act.tmps[30]? = some (.bool sm) := hJ.val l8 rfl (fun u h => h)
   clear hJ hd
   go_simp
   exact hK3 _ _ (Below.refl _ _) rfl
  | q + 12, ho => simp at ho
 case fin =>
  intro V W hbW hV
  have v0 : V 0 = .slice AG sig.length cG := hV 0 22 rfl
  have v1 : V 1 = .agg #[.int .i64 g.roots, .slice AN g.nodes.length cN, .slice AS g.sites.length cS, .int .i64 g.edges, .slice AO g.outer.length cO, .slice AI g.inner.length cI] := hV 1 23 rfl
  have v2 : V 2 = .bool pl := hV 2 24 rfl
  have v3 : V 3 = .slice AG sig.length cG := hV 3 25 rfl
  have v4 : V 4 = .agg #[.int .i64 g.roots, .slice AN g.nodes.length cN, .slice AS g.sites.length cS, .int .i64 g.edges, .slice AO g.outer.length cO, .slice AI g.inner.length cI] := hV 4 26 rfl
  have v5 : V 5 = .bool pm := hV 5 27 rfl
  have v6 : V 6 = .slice AG sig.length cG := hV 6 28 rfl
  have v7 : V 7 = .agg #[.int .i64 g.roots, .slice AN g.nodes.length cN, .slice AS g.sites.length cS, .int .i64 g.edges, .slice AO g.outer.length cO, .slice AI g.inner.length cI] := hV 7 29 rfl
  have v8 : V 8 = .bool sm := hV 8 30 rfl
  have v9 : V 9 = .bool pl := hV 9 5 rfl
  have v10 : V 10 = .bool pm := hV 10 6 rfl
  have v11 : V 11 = .bool sm := hV 11 7 rfl
  clear hV
  simp only [layV, List.setIfInBounds_toArray, List.set_cons_zero, List.set_cons_succ, v0, v1, v2, v3, v4, v5, v6, v7, v8, v9, v10, v11]
  clear v0 v1 v2 v3 v4 v5 v6 v7 v8 v9 v10 v11
  have HZ2 := Lib.hid (HZ.out.trans (hbW.mono HZ.out.size))
  clear hbW HZ
  have HZ := Lib.hid HZ2.out
  clear HZ2
  go_wp2_with fail
  obtain ⟨wz, hwz⟩ : ∃ wz, wz = W := ⟨_, rfl⟩
  subst hwz
  refine wp_region_vals (by kernel_rfl) [some 31, some 32, some 33, some 34, some 35, some 36, some 37, some 38, some 39, some 8, some 9, some 10] (fun q v W => match q with | 0 => v = .slice AG sig.length cG | 1 => v = .agg #[.int .i64 g.roots, .slice AN g.nodes.length cN, .slice AS g.sites.length cS, .int .i64 g.edges, .slice AO g.outer.length cO, .slice AI g.inner.length cI] | 2 => v = .bool wi | 3 => v = .slice AG sig.length cG | 4 => v = .agg #[.int .i64 g.roots, .slice AN g.nodes.length cN, .slice AS g.sites.length cS, .int .i64 g.edges, .slice AO g.outer.length cO, .slice AI g.inner.length cI] | 5 => v = .bool op | 6 => v = .slice AG sig.length cG | 7 => v = .agg #[.int .i64 g.roots, .slice AN g.nodes.length cN, .slice AS g.sites.length cS, .int .i64 g.edges, .slice AO g.outer.length cO, .slice AI g.inner.length cI] | 8 => v = .bool rn | 9 => v = .bool wi | 10 => v = .bool op | 11 => v = .bool rn | _ => True) (by kernel_rfl) (by kernel_rfl) ?mono ?step ?fin
  case mono =>
   intro q v W W' hb h
   match q, h with
   | 0, h => exact h
   | 1, h => exact h
   | 2, h => exact h
   | 3, h => exact h
   | 4, h => exact h
   | 5, h => exact h
   | 6, h => exact h
   | 7, h => exact h
   | 8, h => exact h
   | 9, h => exact h
   | 10, h => exact h
   | 11, h => exact h
   | q + 12, _ => trivial
  case step =>
   intro L act W q oo hJ ho hd K3 hK3
   match q, ho with
   | 0, ho =>
    simp only [List.getElem?_toArray, List.getElem?_cons_zero, List.getElem?_cons_succ, Option.some.injEq] at ho
    subst ho
    have hbW := hJ.bel
    have a3 : act.tmps[3]? = some (.slice AG sig.length cG) := hJ.out 3 (by decide)
    clear hJ hd
    go_simp
    exact hK3 _ _ (Below.refl _ _) rfl
   | 1, ho =>
    simp only [List.getElem?_toArray, List.getElem?_cons_zero, List.getElem?_cons_succ, Option.some.injEq] at ho
    subst ho
    have hbW := hJ.bel
    have a4 : act.tmps[4]? = some (.pointer (some ⟨w1.heap.size, 0, none⟩)) := hJ.out 4 (by decide)
    clear hJ hd
    have bxW := HBX.out W (HZ.out.trans (hbW.mono HZ.out.size))
    have p0 : World.cell? W ⟨w1.heap.size, 0, none⟩ = some (.int .i64 g.roots) := cell_of_row W _ 0 _ _ _ bxW
    have p1 : World.cell? W ⟨w1.heap.size, 1, none⟩ = some (.slice AN g.nodes.length cN) := cell_of_row W _ 1 _ _ _ bxW
    have p2 : World.cell? W ⟨w1.heap.size, 2, none⟩ = some (.slice AS g.sites.length cS) := cell_of_row W _ 2 _ _ _ bxW
    have p3 : World.cell? W ⟨w1.heap.size, 3, none⟩ = some (.int .i64 g.edges) := cell_of_row W _ 3 _ _ _ bxW
    have p4 : World.cell? W ⟨w1.heap.size, 4, none⟩ = some (.slice AO g.outer.length cO) := cell_of_row W _ 4 _ _ _ bxW
    have p5 : World.cell? W ⟨w1.heap.size, 5, none⟩ = some (.slice AI g.inner.length cI) := cell_of_row W _ 5 _ _ _ bxW
    clear bxW
    go_simp
    exact hK3 _ _ (Below.refl _ _) rfl
   | 2, ho =>
    simp only [List.getElem?_toArray, List.getElem?_cons_zero, List.getElem?_cons_succ, Option.some.injEq] at ho
    subst ho
    simp [Region.binds] at hd
    have hbW := hJ.bel
    have l0 : L 0 = true := by simp [hd]
    have v0 : act.tmps[31]? = some (.slice AG sig.length cG) := hJ.val l0 rfl (fun u h => h)
    have l1 : L 1 = true := by simp [hd]
    have v1 : act.tmps[32]? = some (.agg #[.int .i64 g.roots, .slice AN g.nodes.length cN, .slice AS g.sites.length cS, .int .i64 g.edges, .slice AO g.outer.length cO, .slice AI g.inner.length cI]) := hJ.val l1 rfl (fun u h => h)
    clear hJ hd
    have HBW := Lib.hid hbW
    clear hbW
    go_simp
    go_at_call 46
    refine (implIsWiring_any sig g _ _ _ _ _ W HSM.out HSZ.out HCP.out (HDG.out W (HZ.out.trans (HBW.out.mono HZ.out.size))).sg (HDG.out W (HZ.out.trans (HBW.out.mono HZ.out.size))).rg).mono ?_
    rintro e W' ⟨rfl, hb⟩
    go_simp
    exact hK3 _ _ hb (by rw [Hwi.out]; first | done | rfl)
   | 3, ho =>
    simp only [List.getElem?_toArray, List.getElem?_cons_zero, List.getElem?_cons_succ, Option.some.injEq] at ho
    subst ho
    have hbW := hJ.bel
    have a3 : act.tmps[3]? = some (.slice AG sig.length cG) := hJ.out 3 (by decide)
    clear hJ hd
    go_simp
    exact hK3 _ _ (Below.refl _ _) rfl
   | 4, ho =>
    simp only [List.getElem?_toArray, List.getElem?_cons_zero, List.getElem?_cons_succ, Option.some.injEq] at ho
    subst ho
    have hbW := hJ.bel
    have a4 : act.tmps[4]? = some (.pointer (some ⟨w1.heap.size, 0, none⟩)) := hJ.out 4 (by decide)
    clear hJ hd
    have bxW := HBX.out W (HZ.out.trans (hbW.mono HZ.out.size))
    have p0 : World.cell? W ⟨w1.heap.size, 0, none⟩ = some (.int .i64 g.roots) := cell_of_row W _ 0 _ _ _ bxW
    have p1 : World.cell? W ⟨w1.heap.size, 1, none⟩ = some (.slice AN g.nodes.length cN) := cell_of_row W _ 1 _ _ _ bxW
    have p2 : World.cell? W ⟨w1.heap.size, 2, none⟩ = some (.slice AS g.sites.length cS) := cell_of_row W _ 2 _ _ _ bxW
    have p3 : World.cell? W ⟨w1.heap.size, 3, none⟩ = some (.int .i64 g.edges) := cell_of_row W _ 3 _ _ _ bxW
    have p4 : World.cell? W ⟨w1.heap.size, 4, none⟩ = some (.slice AO g.outer.length cO) := cell_of_row W _ 4 _ _ _ bxW
    have p5 : World.cell? W ⟨w1.heap.size, 5, none⟩ = some (.slice AI g.inner.length cI) := cell_of_row W _ 5 _ _ _ bxW
    clear bxW
    go_simp
    exact hK3 _ _ (Below.refl _ _) rfl
   | 5, ho =>
    simp only [List.getElem?_toArray, List.getElem?_cons_zero, List.getElem?_cons_succ, Option.some.injEq] at ho
    subst ho
    simp [Region.binds] at hd
    have hbW := hJ.bel
    have l3 : L 3 = true := by simp [hd]
    have v3 : act.tmps[34]? = some (.slice AG sig.length cG) := hJ.val l3 rfl (fun u h => h)
    have l4 : L 4 = true := by simp [hd]
    have v4 : act.tmps[35]? = some (.agg #[.int .i64 g.roots, .slice AN g.nodes.length cN, .slice AS g.sites.length cS, .int .i64 g.edges, .slice AO g.outer.length cO, .slice AI g.inner.length cI]) := hJ.val l4 rfl (fun u h => h)
    clear hJ hd
    have HBW := Lib.hid hbW
    clear hbW
    go_simp
    go_at_call 45
    refine (implIsSubstitution_any sig g _ _ _ _ _ W HSM.out HSZ.out HCP.out (HDG.out W (HZ.out.trans (HBW.out.mono HZ.out.size))).sg (HDG.out W (HZ.out.trans (HBW.out.mono HZ.out.size))).rg).mono ?_
    rintro e W' ⟨rfl, hb⟩
    go_simp
    exact hK3 _ _ hb (by rw [Hop.out]; first | done | rfl)
   | 6, ho =>
    simp only [List.getElem?_toArray, List.getElem?_cons_zero, List.getElem?_cons_succ, Option.some.injEq] at ho
    subst ho
    have hbW := hJ.bel
    have a3 : act.tmps[3]? = some (.slice AG sig.length cG) := hJ.out 3 (by decide)
    clear hJ hd
    go_simp
    exact hK3 _ _ (Below.refl _ _) rfl
   | 7, ho =>
    simp only [List.getElem?_toArray, List.getElem?_cons_zero, List.getElem?_cons_succ, Option.some.injEq] at ho
    subst ho
    have hbW := hJ.bel
    have a4 : act.tmps[4]? = some (.pointer (some ⟨w1.heap.size, 0, none⟩)) := hJ.out 4 (by decide)
    clear hJ hd
    have bxW := HBX.out W (HZ.out.trans (hbW.mono HZ.out.size))
    have p0 : World.cell? W ⟨w1.heap.size, 0, none⟩ = some (.int .i64 g.roots) := cell_of_row W _ 0 _ _ _ bxW
    have p1 : World.cell? W ⟨w1.heap.size, 1, none⟩ = some (.slice AN g.nodes.length cN) := cell_of_row W _ 1 _ _ _ bxW
    have p2 : World.cell? W ⟨w1.heap.size, 2, none⟩ = some (.slice AS g.sites.length cS) := cell_of_row W _ 2 _ _ _ bxW
    have p3 : World.cell? W ⟨w1.heap.size, 3, none⟩ = some (.int .i64 g.edges) := cell_of_row W _ 3 _ _ _ bxW
    have p4 : World.cell? W ⟨w1.heap.size, 4, none⟩ = some (.slice AO g.outer.length cO) := cell_of_row W _ 4 _ _ _ bxW
    have p5 : World.cell? W ⟨w1.heap.size, 5, none⟩ = some (.slice AI g.inner.length cI) := cell_of_row W _ 5 _ _ _ bxW
    clear bxW
    go_simp
    exact hK3 _ _ (Below.refl _ _) rfl
   | 8, ho =>
    simp only [List.getElem?_toArray, List.getElem?_cons_zero, List.getElem?_cons_succ, Option.some.injEq] at ho
    subst ho
    simp [Region.binds] at hd
    have hbW := hJ.bel
    have l6 : L 6 = true := by simp [hd]
    have v6 : act.tmps[37]? = some (.slice AG sig.length cG) := hJ.val l6 rfl (fun u h => h)
    have l7 : L 7 = true := by simp [hd]
    have v7 : act.tmps[38]? = some (.agg #[.int .i64 g.roots, .slice AN g.nodes.length cN, .slice AS g.sites.length cS, .int .i64 g.edges, .slice AO g.outer.length cO, .slice AI g.inner.length cI]) := hJ.val l7 rfl (fun u h => h)
    clear hJ hd
    have HBW := Lib.hid hbW
    clear hbW
    go_simp
    go_at_call 71
    refine (implIsRenaming_any sig g _ _ _ _ _ W HSM.out HSZ.out HCP.out (HDG.out W (HZ.out.trans (HBW.out.mono HZ.out.size))).sg (HDG.out W (HZ.out.trans (HBW.out.mono HZ.out.size))).rg).mono ?_
    rintro e W' ⟨rfl, hb⟩
    go_simp
    exact hK3 _ _ hb (by rw [Hrn.out]; first | done | rfl)
   | 9, ho =>
    simp only [List.getElem?_toArray, List.getElem?_cons_zero, List.getElem?_cons_succ, Option.some.injEq] at ho
    subst ho
    simp [Region.binds] at hd
    have hbW := hJ.bel
    have l2 : L 2 = true := by simp [hd]
    have v2 : act.tmps[33]? = some (.bool wi) := hJ.val l2 rfl (fun u h => h)
    clear hJ hd
    go_simp
    exact hK3 _ _ (Below.refl _ _) rfl
   | 10, ho =>
    simp only [List.getElem?_toArray, List.getElem?_cons_zero, List.getElem?_cons_succ, Option.some.injEq] at ho
    subst ho
    simp [Region.binds] at hd
    have hbW := hJ.bel
    have l5 : L 5 = true := by simp [hd]
    have v5 : act.tmps[36]? = some (.bool op) := hJ.val l5 rfl (fun u h => h)
    clear hJ hd
    go_simp
    exact hK3 _ _ (Below.refl _ _) rfl
   | 11, ho =>
    simp only [List.getElem?_toArray, List.getElem?_cons_zero, List.getElem?_cons_succ, Option.some.injEq] at ho
    subst ho
    simp [Region.binds] at hd
    have hbW := hJ.bel
    have l8 : L 8 = true := by simp [hd]
    have v8 : act.tmps[39]? = some (.bool rn) := hJ.val l8 rfl (fun u h => h)
    clear hJ hd
    go_simp
    exact hK3 _ _ (Below.refl _ _) rfl
   | q + 12, ho => simp at ho
  case fin =>
   intro V W hbW hV
   have v0 : V 0 = .slice AG sig.length cG := hV 0 31 rfl
   have v1 : V 1 = .agg #[.int .i64 g.roots, .slice AN g.nodes.length cN, .slice AS g.sites.length cS, .int .i64 g.edges, .slice AO g.outer.length cO, .slice AI g.inner.length cI] := hV 1 32 rfl
   have v2 : V 2 = .bool wi := hV 2 33 rfl
   have v3 : V 3 = .slice AG sig.length cG := hV 3 34 rfl
   have v4 : V 4 = .agg #[.int .i64 g.roots, .slice AN g.nodes.length cN, .slice AS g.sites.length cS, .int .i64 g.edges, .slice AO g.outer.length cO, .slice AI g.inner.length cI] := hV 4 35 rfl
   have v5 : V 5 = .bool op := hV 5 36 rfl
   have v6 : V 6 = .slice AG sig.length cG := hV 6 37 rfl
   have v7 : V 7 = .agg #[.int .i64 g.roots, .slice AN g.nodes.length cN, .slice AS g.sites.length cS, .int .i64 g.edges, .slice AO g.outer.length cO, .slice AI g.inner.length cI] := hV 7 38 rfl
   have v8 : V 8 = .bool rn := hV 8 39 rfl
   have v9 : V 9 = .bool wi := hV 9 8 rfl
   have v10 : V 10 = .bool op := hV 10 9 rfl
   have v11 : V 11 = .bool rn := hV 11 10 rfl
   clear hV
   simp only [layV, List.setIfInBounds_toArray, List.set_cons_zero, List.set_cons_succ, v0, v1, v2, v3, v4, v5, v6, v7, v8, v9, v10, v11]
   clear v0 v1 v2 v3 v4 v5 v6 v7 v8 v9 v10 v11
   have HZ2 := Lib.hid (HZ.out.trans (hbW.mono HZ.out.size))
   clear hbW HZ
   have HZ := Lib.hid HZ2.out
   clear HZ2
   go_wp2_with fail
   obtain ⟨wz, hwz⟩ : ∃ wz, wz = W := ⟨_, rfl⟩
   subst hwz
   refine wp_region_vals (by kernel_rfl) [some 40, some 41, some 42, some 43, some 44, some 45, some 46, some 47, some 48, some 49, some 50, some 51, some 11, some 12, some 13, some 14] (fun q v W => match q with | 0 => v = .slice AG sig.length cG | 1 => v = .agg #[.int .i64 g.roots, .slice AN g.nodes.length cN, .slice AS g.sites.length cS, .int .i64 g.edges, .slice AO g.outer.length cO, .slice AI g.inner.length cI] | 2 => v = .bool di | 3 => v = .slice AG sig.length cG | 4 => v = .agg #[.int .i64 g.roots, .slice AN g.nodes.length cN, .slice AS g.sites.length cS, .int .i64 g.edges, .slice AO g.outer.length cO, .slice AI g.inner.length cI] | 5 => v = .bool pr | 6 => v = .slice AG sig.length cG | 7 => v = .agg #[.int .i64 g.roots, .slice AN g.nodes.length cN, .slice AS g.sites.length cS, .int .i64 g.edges, .slice AO g.outer.length cO, .slice AI g.inner.length cI] | 8 => v = .bool le | 9 => v = .slice AG sig.length cG | 10 => v = .agg #[.int .i64 g.roots, .slice AN g.nodes.length cN, .slice AS g.sites.length cS, .int .i64 g.edges, .slice AO g.outer.length cO, .slice AI g.inner.length cI] | 11 => v = .bool gu | 12 => v = .bool di | 13 => v = .bool pr | 14 => v = .bool le | 15 => v = .bool gu | _ => True) (by kernel_rfl) (by kernel_rfl) ?mono ?step ?fin
   case mono =>
    intro q v W W' hb h
    match q, h with
    | 0, h => exact h
    | 1, h => exact h
    | 2, h => exact h
    | 3, h => exact h
    | 4, h => exact h
    | 5, h => exact h
    | 6, h => exact h
    | 7, h => exact h
    | 8, h => exact h
    | 9, h => exact h
    | 10, h => exact h
    | 11, h => exact h
    | 12, h => exact h
    | 13, h => exact h
    | 14, h => exact h
    | 15, h => exact h
    | q + 16, _ => trivial
   case step =>
    intro L act W q oo hJ ho hd K3 hK3
    match q, ho with
    | 0, ho =>
     simp only [List.getElem?_toArray, List.getElem?_cons_zero, List.getElem?_cons_succ, Option.some.injEq] at ho
     subst ho
     have hbW := hJ.bel
     have a3 : act.tmps[3]? = some (.slice AG sig.length cG) := hJ.out 3 (by decide)
     clear hJ hd
     go_simp
     exact hK3 _ _ (Below.refl _ _) rfl
    | 1, ho =>
     simp only [List.getElem?_toArray, List.getElem?_cons_zero, List.getElem?_cons_succ, Option.some.injEq] at ho
     subst ho
     have hbW := hJ.bel
     have a4 : act.tmps[4]? = some (.pointer (some ⟨w1.heap.size, 0, none⟩)) := hJ.out 4 (by decide)
     clear hJ hd
     have bxW := HBX.out W (HZ.out.trans (hbW.mono HZ.out.size))
     have p0 : World.cell? W ⟨w1.heap.size, 0, none⟩ = some (.int .i64 g.roots) := cell_of_row W _ 0 _ _ _ bxW
     have p1 : World.cell? W ⟨w1.heap.size, 1, none⟩ = some (.slice AN g.nodes.length cN) := cell_of_row W _ 1 _ _ _ bxW
     have p2 : World.cell? W ⟨w1.heap.size, 2, none⟩ = some (.slice AS g.sites.length cS) := cell_of_row W _ 2 _ _ _ bxW
     have p3 : World.cell? W ⟨w1.heap.size, 3, none⟩ = some (.int .i64 g.edges) := cell_of_row W _ 3 _ _ _ bxW
     have p4 : World.cell? W ⟨w1.heap.size, 4, none⟩ = some (.slice AO g.outer.length cO) := cell_of_row W _ 4 _ _ _ bxW
     have p5 : World.cell? W ⟨w1.heap.size, 5, none⟩ = some (.slice AI g.inner.length cI) := cell_of_row W _ 5 _ _ _ bxW
     clear bxW
     go_simp
     exact hK3 _ _ (Below.refl _ _) rfl
    | 2, ho =>
     simp only [List.getElem?_toArray, List.getElem?_cons_zero, List.getElem?_cons_succ, Option.some.injEq] at ho
     subst ho
     simp [Region.binds] at hd
     have hbW := hJ.bel
     have l0 : L 0 = true := by simp [hd]
     have v0 : act.tmps[40]? = some (.slice AG sig.length cG) := hJ.val l0 rfl (fun u h => h)
     have l1 : L 1 = true := by simp [hd]
     have v1 : act.tmps[41]? = some (.agg #[.int .i64 g.roots, .slice AN g.nodes.length cN, .slice AS g.sites.length cS, .int .i64 g.edges, .slice AO g.outer.length cO, .slice AI g.inner.length cI]) := hJ.val l1 rfl (fun u h => h)
     clear hJ hd
     have HBW := Lib.hid hbW
     clear hbW
     go_simp
     go_at_call 77
     refine (implIsDiscrete_any sig g _ _ _ _ _ W HSM.out HSZ.out HCP.out (HDG.out W (HZ.out.trans (HBW.out.mono HZ.out.size))).sg (HDG.out W (HZ.out.trans (HBW.out.mono HZ.out.size))).rg).mono ?_
     rintro e W' ⟨rfl, hb⟩
     go_simp
     exact hK3 _ _ hb (by rw [Hdi.out]; first | done | rfl)
    | 3, ho =>
     simp only [List.getElem?_toArray, List.getElem?_cons_zero, List.getElem?_cons_succ, Option.some.injEq] at ho
     subst ho
     have hbW := hJ.bel
     have a3 : act.tmps[3]? = some (.slice AG sig.length cG) := hJ.out 3 (by decide)
     clear hJ hd
     go_simp
     exact hK3 _ _ (Below.refl _ _) rfl
    | 4, ho =>
     simp only [List.getElem?_toArray, List.getElem?_cons_zero, List.getElem?_cons_succ, Option.some.injEq] at ho
     subst ho
     have hbW := hJ.bel
     have a4 : act.tmps[4]? = some (.pointer (some ⟨w1.heap.size, 0, none⟩)) := hJ.out 4 (by decide)
     clear hJ hd
     have bxW := HBX.out W (HZ.out.trans (hbW.mono HZ.out.size))
     have p0 : World.cell? W ⟨w1.heap.size, 0, none⟩ = some (.int .i64 g.roots) := cell_of_row W _ 0 _ _ _ bxW
     have p1 : World.cell? W ⟨w1.heap.size, 1, none⟩ = some (.slice AN g.nodes.length cN) := cell_of_row W _ 1 _ _ _ bxW
     have p2 : World.cell? W ⟨w1.heap.size, 2, none⟩ = some (.slice AS g.sites.length cS) := cell_of_row W _ 2 _ _ _ bxW
     have p3 : World.cell? W ⟨w1.heap.size, 3, none⟩ = some (.int .i64 g.edges) := cell_of_row W _ 3 _ _ _ bxW
     have p4 : World.cell? W ⟨w1.heap.size, 4, none⟩ = some (.slice AO g.outer.length cO) := cell_of_row W _ 4 _ _ _ bxW
     have p5 : World.cell? W ⟨w1.heap.size, 5, none⟩ = some (.slice AI g.inner.length cI) := cell_of_row W _ 5 _ _ _ bxW
     clear bxW
     go_simp
     exact hK3 _ _ (Below.refl _ _) rfl
    | 5, ho =>
     simp only [List.getElem?_toArray, List.getElem?_cons_zero, List.getElem?_cons_succ, Option.some.injEq] at ho
     subst ho
     simp [Region.binds] at hd
     have hbW := hJ.bel
     have l3 : L 3 = true := by simp [hd]
     have v3 : act.tmps[43]? = some (.slice AG sig.length cG) := hJ.val l3 rfl (fun u h => h)
     have l4 : L 4 = true := by simp [hd]
     have v4 : act.tmps[44]? = some (.agg #[.int .i64 g.roots, .slice AN g.nodes.length cN, .slice AS g.sites.length cS, .int .i64 g.edges, .slice AO g.outer.length cO, .slice AI g.inner.length cI]) := hJ.val l4 rfl (fun u h => h)
     clear hJ hd
     have HBW := Lib.hid hbW
     clear hbW
     go_simp
     go_at_call 30
     refine (implIsPrime_any sig g _ _ _ _ _ W HSM.out HSZ.out HCP.out (HDG.out W (HZ.out.trans (HBW.out.mono HZ.out.size))).sg (HDG.out W (HZ.out.trans (HBW.out.mono HZ.out.size))).rg).mono ?_
     rintro e W' ⟨rfl, hb⟩
     go_simp
     exact hK3 _ _ hb (by rw [Hpr.out]; first | done | rfl)
    | 6, ho =>
     simp only [List.getElem?_toArray, List.getElem?_cons_zero, List.getElem?_cons_succ, Option.some.injEq] at ho
     subst ho
     have hbW := hJ.bel
     have a3 : act.tmps[3]? = some (.slice AG sig.length cG) := hJ.out 3 (by decide)
     clear hJ hd
     go_simp
     exact hK3 _ _ (Below.refl _ _) rfl
    | 7, ho =>
     simp only [List.getElem?_toArray, List.getElem?_cons_zero, List.getElem?_cons_succ, Option.some.injEq] at ho
     subst ho
     have hbW := hJ.bel
     have a4 : act.tmps[4]? = some (.pointer (some ⟨w1.heap.size, 0, none⟩)) := hJ.out 4 (by decide)
     clear hJ hd
     have bxW := HBX.out W (HZ.out.trans (hbW.mono HZ.out.size))
     have p0 : World.cell? W ⟨w1.heap.size, 0, none⟩ = some (.int .i64 g.roots) := cell_of_row W _ 0 _ _ _ bxW
     have p1 : World.cell? W ⟨w1.heap.size, 1, none⟩ = some (.slice AN g.nodes.length cN) := cell_of_row W _ 1 _ _ _ bxW
     have p2 : World.cell? W ⟨w1.heap.size, 2, none⟩ = some (.slice AS g.sites.length cS) := cell_of_row W _ 2 _ _ _ bxW
     have p3 : World.cell? W ⟨w1.heap.size, 3, none⟩ = some (.int .i64 g.edges) := cell_of_row W _ 3 _ _ _ bxW
     have p4 : World.cell? W ⟨w1.heap.size, 4, none⟩ = some (.slice AO g.outer.length cO) := cell_of_row W _ 4 _ _ _ bxW
     have p5 : World.cell? W ⟨w1.heap.size, 5, none⟩ = some (.slice AI g.inner.length cI) := cell_of_row W _ 5 _ _ _ bxW
     clear bxW
     go_simp
     exact hK3 _ _ (Below.refl _ _) rfl
    | 8, ho =>
     simp only [List.getElem?_toArray, List.getElem?_cons_zero, List.getElem?_cons_succ, Option.some.injEq] at ho
     subst ho
     simp [Region.binds] at hd
     have hbW := hJ.bel
     have l6 : L 6 = true := by simp [hd]
     have v6 : act.tmps[46]? = some (.slice AG sig.length cG) := hJ.val l6 rfl (fun u h => h)
     have l7 : L 7 = true := by simp [hd]
     have v7 : act.tmps[47]? = some (.agg #[.int .i64 g.roots, .slice AN g.nodes.length cN, .slice AS g.sites.length cS, .int .i64 g.edges, .slice AO g.outer.length cO, .slice AI g.inner.length cI]) := hJ.val l7 rfl (fun u h => h)
     clear hJ hd
     have HBW := Lib.hid hbW
     clear hbW
     go_simp
     go_at_call 47
     refine (implIsLean_any sig g _ _ _ _ _ W HSM.out HSZ.out HCP.out (HDG.out W (HZ.out.trans (HBW.out.mono HZ.out.size))).sg (HDG.out W (HZ.out.trans (HBW.out.mono HZ.out.size))).rg).mono ?_
     rintro e W' ⟨rfl, hb⟩
     go_simp
     exact hK3 _ _ hb (by rw [Hle.out]; first | done | rfl)
    | 9, ho =>
     simp only [List.getElem?_toArray, List.getElem?_cons_zero, List.getElem?_cons_succ, Option.some.injEq] at ho
     subst ho
     have hbW := hJ.bel
     have a3 : act.tmps[3]? = some (.slice AG sig.length cG) := hJ.out 3 (by decide)
     clear hJ hd
     go_simp
     exact hK3 _ _ (Below.refl _ _) rfl
    | 10, ho =>
     simp only [List.getElem?_toArray, List.getElem?_cons_zero, List.getElem?_cons_succ, Option.some.injEq] at ho
     subst ho
     have hbW := hJ.bel
     have a4 : act.tmps[4]? = some (.pointer (some ⟨w1.heap.size, 0, none⟩)) := hJ.out 4 (by decide)
     clear hJ hd
     have bxW := HBX.out W (HZ.out.trans (hbW.mono HZ.out.size))
     have p0 : World.cell? W ⟨w1.heap.size, 0, none⟩ = some (.int .i64 g.roots) := cell_of_row W _ 0 _ _ _ bxW
     have p1 : World.cell? W ⟨w1.heap.size, 1, none⟩ = some (.slice AN g.nodes.length cN) := cell_of_row W _ 1 _ _ _ bxW
     have p2 : World.cell? W ⟨w1.heap.size, 2, none⟩ = some (.slice AS g.sites.length cS) := cell_of_row W _ 2 _ _ _ bxW
     have p3 : World.cell? W ⟨w1.heap.size, 3, none⟩ = some (.int .i64 g.edges) := cell_of_row W _ 3 _ _ _ bxW
     have p4 : World.cell? W ⟨w1.heap.size, 4, none⟩ = some (.slice AO g.outer.length cO) := cell_of_row W _ 4 _ _ _ bxW
     have p5 : World.cell? W ⟨w1.heap.size, 5, none⟩ = some (.slice AI g.inner.length cI) := cell_of_row W _ 5 _ _ _ bxW
     clear bxW
     go_simp
     exact hK3 _ _ (Below.refl _ _) rfl
    | 11, ho =>
     simp only [List.getElem?_toArray, List.getElem?_cons_zero, List.getElem?_cons_succ, Option.some.injEq] at ho
     subst ho
     simp [Region.binds] at hd
     have hbW := hJ.bel
     have l9 : L 9 = true := by simp [hd]
     have v9 : act.tmps[49]? = some (.slice AG sig.length cG) := hJ.val l9 rfl (fun u h => h)
     have l10 : L 10 = true := by simp [hd]
     have v10 : act.tmps[50]? = some (.agg #[.int .i64 g.roots, .slice AN g.nodes.length cN, .slice AS g.sites.length cS, .int .i64 g.edges, .slice AO g.outer.length cO, .slice AI g.inner.length cI]) := hJ.val l10 rfl (fun u h => h)
     clear hJ hd
     have HBW := Lib.hid hbW
     clear hbW
     go_simp
     go_at_call 49
     refine (implIsGuarding_any sig g _ _ _ _ _ W HSM.out HSZ.out HCP.out (HDG.out W (HZ.out.trans (HBW.out.mono HZ.out.size))).sg (HDG.out W (HZ.out.trans (HBW.out.mono HZ.out.size))).rg).mono ?_
     rintro e W' ⟨rfl, hb⟩
     go_simp
     exact hK3 _ _ hb (by rw [Hgu.out]; first | done | rfl)
    | 12, ho =>
     simp only [List.getElem?_toArray, List.getElem?_cons_zero, List.getElem?_cons_succ, Option.some.injEq] at ho
     subst ho
     simp [Region.binds] at hd
     have hbW := hJ.bel
     have l2 : L 2 = true := by simp [hd]
     have v2 : act.tmps[42]? = some (.bool di) := hJ.val l2 rfl (fun u h => h)
     clear hJ hd
     go_simp
     exact hK3 _ _ (Below.refl _ _) rfl
    | 13, ho =>
     simp only [List.getElem?_toArray, List.getElem?_cons_zero, List.getElem?_cons_succ, Option.some.injEq] at ho
     subst ho
     simp [Region.binds] at hd
     have hbW := hJ.bel
     have l5 : L 5 = true := by simp [hd]
     have v5 : act.tmps[45]? = some (.bool pr) := hJ.val l5 rfl (fun u h => h)
     clear hJ hd
     go_simp
     exact hK3 _ _ (Below.refl _ _) rfl
    | 14, ho =>
     simp only [List.getElem?_toArray, List.getElem?_cons_zero, List.getElem?_cons_succ, Option.some.injEq] at ho
     subst ho
     simp [Region.binds] at hd
     have hbW := hJ.bel
     have l8 : L 8 = true := by simp [hd]
     have v8 : act.tmps[48]? = some (.bool le) := hJ.val l8 rfl (fun u h => h)
     clear hJ hd
     go_simp
     exact hK3 _ _ (Below.refl _ _) rfl
    | 15, ho =>
     simp only [List.getElem?_toArray, List.getElem?_cons_zero, List.getElem?_cons_succ, Option.some.injEq] at ho
     subst ho
     simp [Region.binds] at hd
     have hbW := hJ.bel
     have l11 : L 11 = true := by simp [hd]
     have v11 : act.tmps[51]? = some (.bool gu) := hJ.val l11 rfl (fun u h => h)
     clear hJ hd
     go_simp
     exact hK3 _ _ (Below.refl _ _) rfl
    | q + 16, ho => simp at ho
   case fin =>
    intro V W hbW hV
    have v0 : V 0 = .slice AG sig.length cG := hV 0 40 rfl
    have v1 : V 1 = .agg #[.int .i64 g.roots, .slice AN g.nodes.length cN, .slice AS g.sites.length cS, .int .i64 g.edges, .slice AO g.outer.length cO, .slice AI g.inner.length cI] := hV 1 41 rfl
    have v2 : V 2 = .bool di := hV 2 42 rfl
    have v3 : V 3 = .slice AG sig.length cG := hV 3 43 rfl
    have v4 : V 4 = .agg #[.int .i64 g.roots, .slice AN g.nodes.length cN, .slice AS g.sites.length cS, .int .i64 g.edges, .slice AO g.outer.length cO, .slice AI g.inner.length cI] := hV 4 44 rfl
    have v5 : V 5 = .bool pr := hV 5 45 rfl
    have v6 : V 6 = .slice AG sig.length cG := hV 6 46 rfl
    have v7 : V 7 = .agg #[.int .i64 g.roots, .slice AN g.nodes.length cN, .slice AS g.sites.length cS, .int .i64 g.edges, .slice AO g.outer.length cO, .slice AI g.inner.length cI] := hV 7 47 rfl
    have v8 : V 8 = .bool le := hV 8 48 rfl
    have v9 : V 9 = .slice AG sig.length cG := hV 9 49 rfl
    have v10 : V 10 = .agg #[.int .i64 g.roots, .slice AN g.nodes.length cN, .slice AS g.sites.length cS, .int .i64 g.edges, .slice AO g.outer.length cO, .slice AI g.inner.length cI] := hV 10 50 rfl
    have v11 : V 11 = .bool gu := hV 11 51 rfl
    have v12 : V 12 = .bool di := hV 12 11 rfl
    have v13 : V 13 = .bool pr := hV 13 12 rfl
    have v14 : V 14 = .bool le := hV 14 13 rfl
    have v15 : V 15 = .bool gu := hV 15 14 rfl
    clear hV
    simp only [layV, List.setIfInBounds_toArray, List.set_cons_zero, List.set_cons_succ, v0, v1, v2, v3, v4, v5, v6, v7, v8, v9, v10, v11, v12, v13, v14, v15]
    clear v0 v1 v2 v3 v4 v5 v6 v7 v8 v9 v10 v11 v12 v13 v14 v15
    have HZ2 := Lib.hid (HZ.out.trans (hbW.mono HZ.out.size))
    clear hbW HZ
    have HZ := Lib.hid HZ2.out
    clear HZ2
    have hx := HBX.out W HZ.out
    have p0 : World.cell? W ⟨w1.heap.size, 0, none⟩ = some (.int .i64 g.roots) := cell_of_row W _ 0 _ _ _ hx
    have p1 : World.cell? W ⟨w1.heap.size, 1, none⟩ = some (.slice AN g.nodes.length cN) := cell_of_row W _ 1 _ _ _ hx
    have p2 : World.cell? W ⟨w1.heap.size, 2, none⟩ = some (.slice AS g.sites.length cS) := cell_of_row W _ 2 _ _ _ hx
    have p3 : World.cell? W ⟨w1.heap.size, 3, none⟩ = some (.int .i64 g.edges) := cell_of_row W _ 3 _ _ _ hx
    have p4 : World.cell? W ⟨w1.heap.size, 4, none⟩ = some (.slice AO g.outer.length cO) := cell_of_row W _ 4 _ _ _ hx
    have p5 : World.cell? W ⟨w1.heap.size, 5, none⟩ = some (.slice AI g.inner.length cI) := cell_of_row W _ 5 _ _ _ hx
    clear hx
    have HC := specIsPlacing_any sig g _ _ _ _ _ W HSM.out HSZ.out (HDG.out W HZ.out).sg (HDG.out W HZ.out).rg
    rw [Hpl.out] at HC
    have HCH := Lib.hid HC
    clear HC
    have o0 : (pl != pl) = false := bne_self_eq_false _
    go_wp2_with fail
    (with_reducible refine HCH.out.mono ?_)
    rintro e W7_0 ⟨rfl, hb⟩
    have HZ2 := Lib.hid (HZ.out.trans (hb.mono HZ.out.size))
    clear hb HZ HCH p0 p1 p2 p3 p4 p5
    have HZ := Lib.hid HZ2.out
    clear HZ2
    have hx := HBX.out W7_0 HZ.out
    have p0 : World.cell? W7_0 ⟨w1.heap.size, 0, none⟩ = some (.int .i64 g.roots) := cell_of_row W7_0 _ 0 _ _ _ hx
    have p1 : World.cell? W7_0 ⟨w1.heap.size, 1, none⟩ = some (.slice AN g.nodes.length cN) := cell_of_row W7_0 _ 1 _ _ _ hx
    have p2 : World.cell? W7_0 ⟨w1.heap.size, 2, none⟩ = some (.slice AS g.sites.length cS) := cell_of_row W7_0 _ 2 _ _ _ hx
    have p3 : World.cell? W7_0 ⟨w1.heap.size, 3, none⟩ = some (.int .i64 g.edges) := cell_of_row W7_0 _ 3 _ _ _ hx
    have p4 : World.cell? W7_0 ⟨w1.heap.size, 4, none⟩ = some (.slice AO g.outer.length cO) := cell_of_row W7_0 _ 4 _ _ _ hx
    have p5 : World.cell? W7_0 ⟨w1.heap.size, 5, none⟩ = some (.slice AI g.inner.length cI) := cell_of_row W7_0 _ 5 _ _ _ hx
    clear hx
    have HC := specIsPermutation_any sig g _ _ _ _ _ W7_0 HSM.out HSZ.out (HDG.out W7_0 HZ.out).sg (HDG.out W7_0 HZ.out).rg
    rw [Hpm.out] at HC
    have HCH := Lib.hid HC
    clear HC
    have o1 : (pm != pm) = false := bne_self_eq_false _
    go_wp2_with fail
    (with_reducible refine HCH.out.mono ?_)
    rintro e W7_1 ⟨rfl, hb⟩
    have HZ2 := Lib.hid (HZ.out.trans (hb.mono HZ.out.size))
    clear hb HZ HCH p0 p1 p2 p3 p4 p5
    have HZ := Lib.hid HZ2.out
    clear HZ2
    have hx := HBX.out W7_1 HZ.out
    have p0 : World.cell? W7_1 ⟨w1.heap.size, 0, none⟩ = some (.int .i64 g.roots) := cell_of_row W7_1 _ 0 _ _ _ hx
    have p1 : World.cell? W7_1 ⟨w1.heap.size, 1, none⟩ = some (.slice AN g.nodes.length cN) := cell_of_row W7_1 _ 1 _ _ _ hx
    have p2 : World.cell? W7_1 ⟨w1.heap.size, 2, none⟩ = some (.slice AS g.sites.length cS) := cell_of_row W7_1 _ 2 _ _ _ hx
    have p3 : World.cell? W7_1 ⟨w1.heap.size, 3, none⟩ = some (.int .i64 g.edges) := cell_of_row W7_1 _ 3 _ _ _ hx
    have p4 : World.cell? W7_1 ⟨w1.heap.size, 4, none⟩ = some (.slice AO g.outer.length cO) := cell_of_row W7_1 _ 4 _ _ _ hx
    have p5 : World.cell? W7_1 ⟨w1.heap.size, 5, none⟩ = some (.slice AI g.inner.length cI) := cell_of_row W7_1 _ 5 _ _ _ hx
    clear hx
    have HC := specIsIdentity_any sig g _ _ _ _ _ W7_1 HSM.out HSZ.out (HDG.out W7_1 HZ.out).sg (HDG.out W7_1 HZ.out).rg
    rw [Hsm.out] at HC
    have HCH := Lib.hid HC
    clear HC
    have o2 : (sm != sm) = false := bne_self_eq_false _
    go_wp2_with fail
    (with_reducible refine HCH.out.mono ?_)
    rintro e W7_2 ⟨rfl, hb⟩
    have HZ2 := Lib.hid (HZ.out.trans (hb.mono HZ.out.size))
    clear hb HZ HCH p0 p1 p2 p3 p4 p5
    have HZ := Lib.hid HZ2.out
    clear HZ2
    have hx := HBX.out W7_2 HZ.out
    have p0 : World.cell? W7_2 ⟨w1.heap.size, 0, none⟩ = some (.int .i64 g.roots) := cell_of_row W7_2 _ 0 _ _ _ hx
    have p1 : World.cell? W7_2 ⟨w1.heap.size, 1, none⟩ = some (.slice AN g.nodes.length cN) := cell_of_row W7_2 _ 1 _ _ _ hx
    have p2 : World.cell? W7_2 ⟨w1.heap.size, 2, none⟩ = some (.slice AS g.sites.length cS) := cell_of_row W7_2 _ 2 _ _ _ hx
    have p3 : World.cell? W7_2 ⟨w1.heap.size, 3, none⟩ = some (.int .i64 g.edges) := cell_of_row W7_2 _ 3 _ _ _ hx
    have p4 : World.cell? W7_2 ⟨w1.heap.size, 4, none⟩ = some (.slice AO g.outer.length cO) := cell_of_row W7_2 _ 4 _ _ _ hx
    have p5 : World.cell? W7_2 ⟨w1.heap.size, 5, none⟩ = some (.slice AI g.inner.length cI) := cell_of_row W7_2 _ 5 _ _ _ hx
    clear hx
    have HC := specIsWiring_any sig g _ _ _ _ _ W7_2 HSM.out HSZ.out (HDG.out W7_2 HZ.out).sg (HDG.out W7_2 HZ.out).rg
    rw [Hwi.out] at HC
    have HCH := Lib.hid HC
    clear HC
    have o3 : (wi != wi) = false := bne_self_eq_false _
    go_wp2_with fail
    (with_reducible refine HCH.out.mono ?_)
    rintro e W7_3 ⟨rfl, hb⟩
    have HZ2 := Lib.hid (HZ.out.trans (hb.mono HZ.out.size))
    clear hb HZ HCH p0 p1 p2 p3 p4 p5
    have HZ := Lib.hid HZ2.out
    clear HZ2
    have hx := HBX.out W7_3 HZ.out
    have p0 : World.cell? W7_3 ⟨w1.heap.size, 0, none⟩ = some (.int .i64 g.roots) := cell_of_row W7_3 _ 0 _ _ _ hx
    have p1 : World.cell? W7_3 ⟨w1.heap.size, 1, none⟩ = some (.slice AN g.nodes.length cN) := cell_of_row W7_3 _ 1 _ _ _ hx
    have p2 : World.cell? W7_3 ⟨w1.heap.size, 2, none⟩ = some (.slice AS g.sites.length cS) := cell_of_row W7_3 _ 2 _ _ _ hx
    have p3 : World.cell? W7_3 ⟨w1.heap.size, 3, none⟩ = some (.int .i64 g.edges) := cell_of_row W7_3 _ 3 _ _ _ hx
    have p4 : World.cell? W7_3 ⟨w1.heap.size, 4, none⟩ = some (.slice AO g.outer.length cO) := cell_of_row W7_3 _ 4 _ _ _ hx
    have p5 : World.cell? W7_3 ⟨w1.heap.size, 5, none⟩ = some (.slice AI g.inner.length cI) := cell_of_row W7_3 _ 5 _ _ _ hx
    clear hx
    have HC := specIsSubstitution_any sig g _ _ _ _ _ W7_3 HSM.out HSZ.out (HDG.out W7_3 HZ.out).sg (HDG.out W7_3 HZ.out).rg
    rw [Hop.out] at HC
    have HCH := Lib.hid HC
    clear HC
    have o4 : (op != op) = false := bne_self_eq_false _
    go_wp2_with fail
    (with_reducible refine HCH.out.mono ?_)
    rintro e W7_4 ⟨rfl, hb⟩
    have HZ2 := Lib.hid (HZ.out.trans (hb.mono HZ.out.size))
    clear hb HZ HCH p0 p1 p2 p3 p4 p5
    have HZ := Lib.hid HZ2.out
    clear HZ2
    have hx := HBX.out W7_4 HZ.out
    have p0 : World.cell? W7_4 ⟨w1.heap.size, 0, none⟩ = some (.int .i64 g.roots) := cell_of_row W7_4 _ 0 _ _ _ hx
    have p1 : World.cell? W7_4 ⟨w1.heap.size, 1, none⟩ = some (.slice AN g.nodes.length cN) := cell_of_row W7_4 _ 1 _ _ _ hx
    have p2 : World.cell? W7_4 ⟨w1.heap.size, 2, none⟩ = some (.slice AS g.sites.length cS) := cell_of_row W7_4 _ 2 _ _ _ hx
    have p3 : World.cell? W7_4 ⟨w1.heap.size, 3, none⟩ = some (.int .i64 g.edges) := cell_of_row W7_4 _ 3 _ _ _ hx
    have p4 : World.cell? W7_4 ⟨w1.heap.size, 4, none⟩ = some (.slice AO g.outer.length cO) := cell_of_row W7_4 _ 4 _ _ _ hx
    have p5 : World.cell? W7_4 ⟨w1.heap.size, 5, none⟩ = some (.slice AI g.inner.length cI) := cell_of_row W7_4 _ 5 _ _ _ hx
    clear hx
    have HC := specIsRenaming_any sig g _ _ _ _ _ W7_4 HSM.out HSZ.out (HDG.out W7_4 HZ.out).sg (HDG.out W7_4 HZ.out).rg
    rw [Hrn.out] at HC
    have HCH := Lib.hid HC
    clear HC
    have o5 : (rn != rn) = false := bne_self_eq_false _
    go_wp2_with fail
    (with_reducible refine HCH.out.mono ?_)
    rintro e W9_0 ⟨rfl, hb⟩
    have HZ2 := Lib.hid (HZ.out.trans (hb.mono HZ.out.size))
    clear hb HZ HCH p0 p1 p2 p3 p4 p5
    have HZ := Lib.hid HZ2.out
    clear HZ2
    have hx := HBX.out W9_0 HZ.out
    have p0 : World.cell? W9_0 ⟨w1.heap.size, 0, none⟩ = some (.int .i64 g.roots) := cell_of_row W9_0 _ 0 _ _ _ hx
    have p1 : World.cell? W9_0 ⟨w1.heap.size, 1, none⟩ = some (.slice AN g.nodes.length cN) := cell_of_row W9_0 _ 1 _ _ _ hx
    have p2 : World.cell? W9_0 ⟨w1.heap.size, 2, none⟩ = some (.slice AS g.sites.length cS) := cell_of_row W9_0 _ 2 _ _ _ hx
    have p3 : World.cell? W9_0 ⟨w1.heap.size, 3, none⟩ = some (.int .i64 g.edges) := cell_of_row W9_0 _ 3 _ _ _ hx
    have p4 : World.cell? W9_0 ⟨w1.heap.size, 4, none⟩ = some (.slice AO g.outer.length cO) := cell_of_row W9_0 _ 4 _ _ _ hx
    have p5 : World.cell? W9_0 ⟨w1.heap.size, 5, none⟩ = some (.slice AI g.inner.length cI) := cell_of_row W9_0 _ 5 _ _ _ hx
    clear hx
    have HC := specIsDiscrete_any sig g _ _ _ _ _ W9_0 HSM.out HSZ.out (HDG.out W9_0 HZ.out).sg (HDG.out W9_0 HZ.out).rg
    rw [Hdi.out] at HC
    have HCH := Lib.hid HC
    clear HC
    have o6 : (di != di) = false := bne_self_eq_false _
    go_wp2_with fail
    (with_reducible refine HCH.out.mono ?_)
    rintro e W9_1 ⟨rfl, hb⟩
    have HZ2 := Lib.hid (HZ.out.trans (hb.mono HZ.out.size))
    clear hb HZ HCH p0 p1 p2 p3 p4 p5
    have HZ := Lib.hid HZ2.out
    clear HZ2
    have hx := HBX.out W9_1 HZ.out
    have p0 : World.cell? W9_1 ⟨w1.heap.size, 0, none⟩ = some (.int .i64 g.roots) := cell_of_row W9_1 _ 0 _ _ _ hx
    have p1 : World.cell? W9_1 ⟨w1.heap.size, 1, none⟩ = some (.slice AN g.nodes.length cN) := cell_of_row W9_1 _ 1 _ _ _ hx
    have p2 : World.cell? W9_1 ⟨w1.heap.size, 2, none⟩ = some (.slice AS g.sites.length cS) := cell_of_row W9_1 _ 2 _ _ _ hx
    have p3 : World.cell? W9_1 ⟨w1.heap.size, 3, none⟩ = some (.int .i64 g.edges) := cell_of_row W9_1 _ 3 _ _ _ hx
    have p4 : World.cell? W9_1 ⟨w1.heap.size, 4, none⟩ = some (.slice AO g.outer.length cO) := cell_of_row W9_1 _ 4 _ _ _ hx
    have p5 : World.cell? W9_1 ⟨w1.heap.size, 5, none⟩ = some (.slice AI g.inner.length cI) := cell_of_row W9_1 _ 5 _ _ _ hx
    clear hx
    have HC := specIsPrime_any sig g _ _ _ _ _ W9_1 HSM.out HSZ.out (HDG.out W9_1 HZ.out).sg (HDG.out W9_1 HZ.out).rg
    rw [Hpr.out] at HC
    have HCH := Lib.hid HC
    clear HC
    have o7 : (pr != pr) = false := bne_self_eq_false _
    go_wp2_with fail
    (with_reducible refine HCH.out.mono ?_)
    rintro e W9_2 ⟨rfl, hb⟩
    have HZ2 := Lib.hid (HZ.out.trans (hb.mono HZ.out.size))
    clear hb HZ HCH p0 p1 p2 p3 p4 p5
    have HZ := Lib.hid HZ2.out
    clear HZ2
    have hx := HBX.out W9_2 HZ.out
    have p0 : World.cell? W9_2 ⟨w1.heap.size, 0, none⟩ = some (.int .i64 g.roots) := cell_of_row W9_2 _ 0 _ _ _ hx
    have p1 : World.cell? W9_2 ⟨w1.heap.size, 1, none⟩ = some (.slice AN g.nodes.length cN) := cell_of_row W9_2 _ 1 _ _ _ hx
    have p2 : World.cell? W9_2 ⟨w1.heap.size, 2, none⟩ = some (.slice AS g.sites.length cS) := cell_of_row W9_2 _ 2 _ _ _ hx
    have p3 : World.cell? W9_2 ⟨w1.heap.size, 3, none⟩ = some (.int .i64 g.edges) := cell_of_row W9_2 _ 3 _ _ _ hx
    have p4 : World.cell? W9_2 ⟨w1.heap.size, 4, none⟩ = some (.slice AO g.outer.length cO) := cell_of_row W9_2 _ 4 _ _ _ hx
    have p5 : World.cell? W9_2 ⟨w1.heap.size, 5, none⟩ = some (.slice AI g.inner.length cI) := cell_of_row W9_2 _ 5 _ _ _ hx
    clear hx
    have HC := specIsLean_any sig g _ _ _ _ _ W9_2 HSM.out HSZ.out (HDG.out W9_2 HZ.out).sg (HDG.out W9_2 HZ.out).rg
    rw [Hle.out] at HC
    have HCH := Lib.hid HC
    clear HC
    have o8 : (le != le) = false := bne_self_eq_false _
    go_wp2_with fail
    (with_reducible refine HCH.out.mono ?_)
    rintro e W9_3 ⟨rfl, hb⟩
    have HZ2 := Lib.hid (HZ.out.trans (hb.mono HZ.out.size))
    clear hb HZ HCH p0 p1 p2 p3 p4 p5
    have HZ := Lib.hid HZ2.out
    clear HZ2
    have hx := HBX.out W9_3 HZ.out
    have p0 : World.cell? W9_3 ⟨w1.heap.size, 0, none⟩ = some (.int .i64 g.roots) := cell_of_row W9_3 _ 0 _ _ _ hx
    have p1 : World.cell? W9_3 ⟨w1.heap.size, 1, none⟩ = some (.slice AN g.nodes.length cN) := cell_of_row W9_3 _ 1 _ _ _ hx
    have p2 : World.cell? W9_3 ⟨w1.heap.size, 2, none⟩ = some (.slice AS g.sites.length cS) := cell_of_row W9_3 _ 2 _ _ _ hx
    have p3 : World.cell? W9_3 ⟨w1.heap.size, 3, none⟩ = some (.int .i64 g.edges) := cell_of_row W9_3 _ 3 _ _ _ hx
    have p4 : World.cell? W9_3 ⟨w1.heap.size, 4, none⟩ = some (.slice AO g.outer.length cO) := cell_of_row W9_3 _ 4 _ _ _ hx
    have p5 : World.cell? W9_3 ⟨w1.heap.size, 5, none⟩ = some (.slice AI g.inner.length cI) := cell_of_row W9_3 _ 5 _ _ _ hx
    clear hx
    have HC := specIsGuarding_any sig g _ _ _ _ _ W9_3 HSM.out HSZ.out (HDG.out W9_3 HZ.out).sg (HDG.out W9_3 HZ.out).rg
    rw [Hgu.out] at HC
    have HCH := Lib.hid HC
    clear HC
    have o9 : (gu != gu) = false := bne_self_eq_false _
    go_wp2_with fail
    (with_reducible refine HCH.out.mono ?_)
    rintro e W9_4 ⟨rfl, hb⟩
    have HZ2 := Lib.hid (HZ.out.trans (hb.mono HZ.out.size))
    clear hb HZ HCH p0 p1 p2 p3 p4 p5
    have HZ := Lib.hid HZ2.out
    clear HZ2
    have hx := HBX.out W9_4 HZ.out
    have p0 : World.cell? W9_4 ⟨w1.heap.size, 0, none⟩ = some (.int .i64 g.roots) := cell_of_row W9_4 _ 0 _ _ _ hx
    have p1 : World.cell? W9_4 ⟨w1.heap.size, 1, none⟩ = some (.slice AN g.nodes.length cN) := cell_of_row W9_4 _ 1 _ _ _ hx
    have p2 : World.cell? W9_4 ⟨w1.heap.size, 2, none⟩ = some (.slice AS g.sites.length cS) := cell_of_row W9_4 _ 2 _ _ _ hx
    have p3 : World.cell? W9_4 ⟨w1.heap.size, 3, none⟩ = some (.int .i64 g.edges) := cell_of_row W9_4 _ 3 _ _ _ hx
    have p4 : World.cell? W9_4 ⟨w1.heap.size, 4, none⟩ = some (.slice AO g.outer.length cO) := cell_of_row W9_4 _ 4 _ _ _ hx
    have p5 : World.cell? W9_4 ⟨w1.heap.size, 5, none⟩ = some (.slice AI g.inner.length cI) := cell_of_row W9_4 _ 5 _ _ _ hx
    have HF := Lib.hid (HB1.out.trans (HZ.out.mono HS1.out))
    clear hx HZ
    obtain ⟨l1, l2, l3, l4⟩ := HLAW.out
    clear HLAW
    cases pm
    ·skip
     cases rn
     ·skip
      cases op
      ·skip
       cases sm
       ·skip
        clear l1 l2 l3 l4
        go_wp2_with fail
        go_ret
        exact ⟨rfl, HF.out⟩
       ·skip
        obtain ⟨rfl, rfl, l5⟩ := l4 rfl
        obtain ⟨ol, hol⟩ : ∃ ol, ol = g.outer.length := ⟨_, rfl⟩
        rw [← hol] at p4 l5
        clear hol
        by_cases h0 : ol = 0
        ·exact absurd (l5 h0) (by decide)
        ·have q0 : (0 : Int) < (ol : Int) := by omega
         clear h0 l1 l2 l3 l4 l5
         go_wp2_with fail
         go_ret
         exact ⟨rfl, HF.out⟩
      ·skip
       cases sm
       ·skip
        obtain rfl := l3 rfl
        clear l1 l2 l3 l4
        go_wp2_with fail
        go_ret
        exact ⟨rfl, HF.out⟩
       ·skip
        obtain rfl := l3 rfl
        obtain ⟨rfl, rfl, l5⟩ := l4 rfl
        obtain ⟨ol, hol⟩ : ∃ ol, ol = g.outer.length := ⟨_, rfl⟩
        rw [← hol] at p4 l5
        clear hol
        by_cases h0 : ol = 0
        ·exact absurd (l5 h0) (by decide)
        ·have q0 : (0 : Int) < (ol : Int) := by omega
         clear h0 l1 l2 l3 l4 l5
         go_wp2_with fail
         go_ret
         exact ⟨rfl, HF.out⟩
     ·skip
      cases op
      ·skip
       cases sm
       ·skip
        exact absurd (l2 rfl).1 (by decide)
       ·skip
        exact absurd (l2 rfl).1 (by decide)
      ·skip
       cases sm
       ·skip
        obtain ⟨_, rfl⟩ := l2 rfl
        obtain rfl := l3 rfl
        clear l1 l2 l3 l4
        go_wp2_with fail
        go_ret
        exact ⟨rfl, HF.out⟩
       ·skip
        obtain ⟨_, rfl⟩ := l2 rfl
        obtain rfl := l3 rfl
        obtain ⟨_, rfl, l5⟩ := l4 rfl
        obtain ⟨ol, hol⟩ : ∃ ol, ol = g.outer.length := ⟨_, rfl⟩
        rw [← hol] at p4 l5
        clear hol
        by_cases h0 : ol = 0
        ·exact absurd (l5 h0) (by decide)
        ·have q0 : (0 : Int) < (ol : Int) := by omega
         clear h0 l1 l2 l3 l4 l5
         go_wp2_with fail
         go_ret
         exact ⟨rfl, HF.out⟩
    ·skip
     cases rn
     ·skip
      cases op
      ·skip
       cases sm
       ·skip
        obtain rfl := l1 rfl
        clear l1 l2 l3 l4
        go_wp2_with fail
        go_ret
        exact ⟨rfl, HF.out⟩
       ·skip
        obtain rfl := l1 rfl
        obtain ⟨rfl, rfl, l5⟩ := l4 rfl
        obtain ⟨ol, hol⟩ : ∃ ol, ol = g.outer.length := ⟨_, rfl⟩
        rw [← hol] at p4 l5
        clear hol
        by_cases h0 : ol = 0
        ·subst h0
         clear l1 l2 l3 l4 l5
         go_wp2_with fail
         go_ret
         exact ⟨rfl, HF.out⟩
        ·have q0 : (0 : Int) < (ol : Int) := by omega
         clear h0 l1 l2 l3 l4 l5
         go_wp2_with fail
         go_ret
         exact ⟨rfl, HF.out⟩
      ·skip
       cases sm
       ·skip
        obtain rfl := l1 rfl
        obtain rfl := l3 rfl
        clear l1 l2 l3 l4
        go_wp2_with fail
        go_ret
        exact ⟨rfl, HF.out⟩
       ·skip
        obtain rfl := l1 rfl
        obtain rfl := l3 rfl
        obtain ⟨rfl, rfl, l5⟩ := l4 rfl
        obtain ⟨ol, hol⟩ : ∃ ol, ol = g.outer.length := ⟨_, rfl⟩
        rw [← hol] at p4 l5
        clear hol
        by_cases h0 : ol = 0
        ·subst h0
         clear l1 l2 l3 l4 l5
         go_wp2_with fail
         go_ret
         exact ⟨rfl, HF.out⟩
        ·have q0 : (0 : Int) < (ol : Int) := by omega
         clear h0 l1 l2 l3 l4 l5
         go_wp2_with fail
         go_ret
         exact ⟨rfl, HF.out⟩
     ·skip
      cases op
      ·skip
       cases sm
       ·skip
        exact absurd (l2 rfl).1 (by decide)
       ·skip
        exact absurd (l2 rfl).1 (by decide)
      ·skip
       cases sm
       ·skip
        obtain rfl := l1 rfl
        obtain ⟨_, rfl⟩ := l2 rfl
        obtain rfl := l3 rfl
        clear l1 l2 l3 l4
        go_wp2_with fail
        go_ret
        exact ⟨rfl, HF.out⟩
       ·skip
        obtain rfl := l1 rfl
        obtain ⟨_, rfl⟩ := l2 rfl
        obtain rfl := l3 rfl
        obtain ⟨_, rfl, l5⟩ := l4 rfl
        obtain ⟨ol, hol⟩ : ∃ ol, ol = g.outer.length := ⟨_, rfl⟩
        rw [← hol] at p4 l5
        clear hol
        by_cases h0 : ol = 0
        ·subst h0
         clear l1 l2 l3 l4 l5
         go_wp2_with fail
         go_ret
         exact ⟨rfl, HF.out⟩
        ·have q0 : (0 : Int) < (ol : Int) := by omega
         clear h0 l1 l2 l3 l4 l5
         go_wp2_with fail
         go_ret
         exact ⟨rfl, HF.out⟩

end Go.Proofs.YtijkdpdmclkmlaaGreatDoor
