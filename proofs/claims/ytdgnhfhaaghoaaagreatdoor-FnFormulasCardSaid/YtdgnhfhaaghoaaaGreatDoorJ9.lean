/- slices.Compact at triples: library walked. -/
import Derived.Test.YtdgnhfhaaghoaaaGreatDoorProg
import Derived.Test.YtdgnhfhaaghoaaaGreatDoorJ7
import Derived.Test.YtdgnhfhaaghoaaaGreatDoorJ8
import Derived.Test.YtdgnhfhaaghoaaaGreatDoorJ3
import Derived.Lib.SliceRun
import Derived.Deep.QuietTactic
import Derived.BigQuiet
set_option linter.unusedSimpArgs false
set_option linter.unusedVariables false
namespace Go.Proofs.YtdgnhfhaaghoaaaGreatDoor
open Go.RowKit

theorem eqT3 (a b c d e f : Int) (w : World) : (Op.equalIn 10000 103 (.agg #[.int .i64 a, .int .i64 b, .int .i64 c]) (.agg #[.int .i64 d, .int .i64 e, .int .i64 f])).run Tryz.prog w = .ok (a == d && b == e && c == f) w := by
  have u3 := Tryz.underlying3
  have a3 := Tryz.isAgg3
  have z3 := Tryz.sizeOf3
  rw [show (10000 : Nat) = 9999 + 1 from rfl, Op.equalIn]
  simp only [Sem.run_bind, run_underlying Tryz.underlying103, Result.andThen_ok]
  simp only [Std.Legacy.Range.forIn_eq_forIn_range', Std.Legacy.Range.size, Nat.sub_zero, Nat.add_sub_cancel, Nat.div_one, List.range'_succ, List.range'_zero, List.forIn_cons, List.forIn_nil]
  go_simp
  by_cases h1 : a = d <;> by_cases h2 : b = e <;> by_cases h3 : c = f <;> simp [h1, h2, h3]

theorem tri_flat (l : List I3) {k : Nat} {x : I3} (h : l[k]? = some x) : (l.flatMap tri)[k * 3]? = some (.int .i64 x.1) ∧ (l.flatMap tri)[k * 3 + 1]? = some (.int .i64 x.2.1) ∧ (l.flatMap tri)[k * 3 + 2]? = some (.int .i64 x.2.2) := by
  have hs : ∀ cs ∈ l.map tri, cs.length = 3 := by
    intro cs h
    obtain ⟨t, _, rfl⟩ := List.mem_map.1 h
    rfl
  have hk : (l.map tri)[k]? = some (tri x) := by rw [List.getElem?_map, h]; rfl
  rw [List.flatMap_def]
  refine ⟨?_, ?_, ?_⟩
  · have := flat_at hs hk (r := 0) (u := .int .i64 x.1) rfl
    simpa using this
  · exact flat_at hs hk (r := 1) (u := .int .i64 x.2.1) rfl
  · exact flat_at hs hk (r := 2) (u := .int .i64 x.2.2) rfl

/-- An owned row of triples, read at a place. -/
theorem owns_tri {w : World} {B g n c : Nat} {l : List I3} (h : w.ownsRow B 103 3 (.slice (some ⟨g, 0, none⟩) n c) n (l.flatMap tri)) {k : Nat} {x : I3} (hx : l[k]? = some x) :
    w.cell? ⟨g, k * 3, none⟩ = some (.int .i64 x.1) ∧ w.cell? ⟨g, k * 3 + 1, none⟩ = some (.int .i64 x.2.1) ∧ w.cell? ⟨g, k * 3 + 2, none⟩ = some (.int .i64 x.2.2) := by
  obtain ⟨b, o, e, hc⟩ := (Cells.of_owns h).at_ (k := k * 3) (List.getElem?_eq_some_iff.1 (tri_flat l hx).1).1
  cases e
  obtain ⟨h0, h1, h2⟩ := tri_flat l hx
  have c0 := hc _ _ h0
  have c1 := hc _ _ h1
  have c2 := hc _ _ h2
  simp only [Nat.zero_add] at c0 c1 c2
  exact ⟨c0, c1, c2⟩

theorem setL_tri {l : List I3} {k : Nat} {x : I3} (h : k < l.length) : setL (l.flatMap tri) (k * 3) (tri x) = (l.set k x).flatMap tri := by
  have e : l = l.take k ++ l[k] :: l.drop (k + 1) := by rw [← List.drop_eq_getElem_cons h, List.take_append_drop]
  have hlen : ((l.take k).flatMap tri).length = k * 3 := by
    rw [tri_len, List.length_take, Nat.min_eq_left (by omega)]
  have e2 : l.set k x = l.take k ++ x :: l.drop (k + 1) := by rw [List.set_eq_take_append_cons_drop, if_pos h]
  rw [e2, List.flatMap_append, List.flatMap_cons]
  conv => lhs; rw [e, List.flatMap_append, List.flatMap_cons]
  rw [← hlen]
  exact setL_mid (tri x) _ (tri l[k]) _ rfl

set_option maxRecDepth 100000 in
set_option maxHeartbeats 16000000 in
theorem compactT_any (g c B : Nat) (l : List I3) (w : World) (hn : l.length ≤ 2000000000000) (h : w.ownsRow B 103 3 (.slice (some ⟨g, 0, none⟩) l.length c) l.length (l.flatMap tri)) :
    Calls Tryz.prog 157 #[.slice (some ⟨g, 0, none⟩) l.length c] w fun e w' => e = .returned (.slice (some ⟨g, 0, none⟩) (compC (0, 0, 0) l l.length).length c) ∧ w'.ownsRow B 103 3 (.slice (some ⟨g, 0, none⟩) (compC (0, 0, 0) l l.length).length c) (compC (0, 0, 0) l l.length).length ((compC (0, 0, 0) l l.length).flatMap tri) ∧ w.grownBy w' (some g) := by
  have hcap : l.length ≤ c := by
    rcases h.2 with ⟨e, _⟩ | ⟨_, _, _, e, _, _, h1, _⟩
    · cases e
    · cases e; exact h1
  have hcm : c ≤ maxLen := by
    rcases h.2 with ⟨e, _⟩ | ⟨_, _, _, e, _, _, _, h1, _⟩
    · cases e
    · cases e; exact h1
  have hgB : B ≤ g := (h.lt g rfl).1
  unfold maxLen at hcm
  have HO := Lib.hid h
  by_cases h2 : l.length < 2
  · have hall : compC (0, 0, 0) l l.length = l := by
      match l, h2 with
      | [], _ => rfl
      | [a], _ => rfl
      | a :: b :: l, h2 => simp at h2; omega
    have HE := Lib.hid hall
    clear h hall
    go_enter Tryz.func157, Tryz.ntmps157
    go_wp2_with fail
    go_ret
    rw [HE.out]
    exact ⟨rfl, HO.out, World.grownBy.refl _ _⟩
  · clear h
    go_enter Tryz.func157, Tryz.ntmps157
    go_wp2_with fail
    go_loopw [3] (fun i wr => ∃ k : Nat, 1 ≤ k ∧ k ≤ l.length ∧ i = .int .i64 k ∧ compC (0, 0, 0) l k = l.take k ∧ wr.ownsRow B 103 3 (.slice (some ⟨g, 0, none⟩) l.length c) l.length (l.flatMap tri) ∧ w.grownBy wr (some g))
      (fun i _ => l.length - (intOf i).toNat)
    case atStart => exact ⟨1, Nat.le_refl _, by omega, rfl, compC_one l (by omega), HO.out, World.grownBy.refl _ _⟩
    case round =>
      clear HO
      obtain ⟨k, hk1, hk, rfl, hco, hown, hgr⟩ := hrel
      have HCO := Lib.hid hco
      have HO := Lib.hid (fun m => show (wr.drewN m).ownsRow B 103 3 (.slice (some ⟨g, 0, none⟩) l.length c) l.length (l.flatMap tri) from hown)
      have HG := Lib.hid (fun m => show w.grownBy (wr.drewN m) (some g) from ⟨hgr.os, hgr.tape, hgr.output, hgr.size, hgr.block⟩)
      by_cases hlt : k < l.length
      · have hx : l[k]? = some (l.getD k (0, 0, 0)) := by simp [List.getD, hlt]
        have hy : l[k - 1]? = some (l.getD (k - 1) (0, 0, 0)) := by simp [List.getD, show k - 1 < l.length by omega]
        obtain ⟨a0, a1, a2⟩ := owns_tri hown hx
        obtain ⟨b0, b1, b2⟩ := owns_tri hown hy
        have hkp : keepC (0, 0, 0) l k = !decide (l.getD k (0, 0, 0) = l.getD (k - 1) (0, 0, 0)) := by
          unfold keepC
          rw [show (k == 0) = false from by rw [beq_eq_false_iff_ne]; omega, Bool.false_or]
        have q0 : (0 : Int) ≤ (k : Int) := by omega
        have q1 : (k : Int) < (l.length : Int) := by omega
        have q2 : (0 : Int) ≤ (k : Int) - 1 := by omega
        have q3 : (k : Int) - 1 < (l.length : Int) := by omega
        have q4 : ((k : Int) - 1).toNat = k - 1 := by omega
        have EQ := Lib.hid (eqT3 (l.getD k (0, 0, 0)).1 (l.getD k (0, 0, 0)).2.1 (l.getD k (0, 0, 0)).2.2 (l.getD (k - 1) (0, 0, 0)).1 (l.getD (k - 1) (0, 0, 0)).2.1 (l.getD (k - 1) (0, 0, 0)).2.2)
        clear hown hgr hco
        generalize hxe : l.getD k (0, 0, 0) = x at *
        generalize hye : l.getD (k - 1) (0, 0, 0) = y at *
        have HXE := Lib.hid hxe
        have HYE := Lib.hid hye
        clear hxe hye hx hy
        have heq : (x.1 == y.1 && x.2.1 == y.2.1 && x.2.2 == y.2.2) = decide (x = y) := by
          obtain ⟨x1, x2, x3⟩ := x
          obtain ⟨y1, y2, y3⟩ := y
          rw [Bool.eq_iff_iff]
          simp [and_assoc]
        rw [heq] at EQ
        cases hd : decide (x = y)
        · rw [hd] at EQ hkp
          have HN := Lib.hid (compC_take hk HCO.out hlt hkp)
          have eqx := EQ.out
          clear hkp heq hd
          go_wp2_with fail
          go_quiet (fail)
          go_wp2_with fail
          go_roundw
          case rel => exact ⟨k + 1, by omega, by omega, by go_num, HN.out, HO.out _, HG.out _⟩
          case measure => simp [intOf]; omega
        · rw [hd] at EQ hkp
          have HM := Lib.hid (mixC_start HCO.out hlt hkp)
          have HCL := Lib.hid (show (compC (0, 0, 0) l (k + 1)).length = k by rw [compC_no hkp, HCO.out, List.length_take]; omega)
          have eqx := EQ.out
          clear hkp heq hd
          have hkc : ¬ c = k := by omega
          have hkd : ¬ k = c := by omega
          have hke : ((k : Int) == (c : Int)) = false := by rw [beq_eq_false_iff_ne]; omega
          have b2' : (k : Int) ≤ (c : Int) := by omega
          go_wp2_with fail
          go_quiet (fail)
          go_wp2_with fail
          clear a0 a1 a2 b0 b1 b2
          go_loopw [3, 5] (fun s3 s5 wr => ∃ q : Nat, 1 ≤ q ∧ k + q ≤ l.length ∧ s5 = .int .i64 q ∧ s3 = .int .i64 (compC (0, 0, 0) l (k + q)).length ∧ (compC (0, 0, 0) l (k + q)).length + 1 ≤ k + q ∧ wr.ownsRow B 103 3 (.slice (some ⟨g, 0, none⟩) l.length c) l.length ((mixC (0, 0, 0) l (k + q)).flatMap tri) ∧ w.grownBy wr (some g))
            (fun _ s5 _ => l.length - (intOf s5).toNat)
          case atStart => exact ⟨1, Nat.le_refl _, by omega, rfl, by rw [HCL.out], by rw [HCL.out]; omega, by rw [HM.out]; exact HO.out _, HG.out _⟩
          case round =>
            clear HO HG HM HCL eqx EQ HXE HYE
            obtain ⟨q, hq1, hq, rfl, rfl, hle, hown, hgr⟩ := hrel
            have hml := mixC_len (z := ((0, 0, 0) : I3)) (l := l) (m := k + q) hq
            by_cases hlt2 : k + q < l.length
            · have hst := compC_step (z := ((0, 0, 0) : I3)) l (k + q)
              have hx : (mixC (0, 0, 0) l (k + q))[k + q]? = some (l.getD (k + q) (0, 0, 0)) := by rw [mixC_at (by omega)]; simp [List.getD, hlt2]
              have hy : (mixC (0, 0, 0) l (k + q))[k + (q - 1)]? = some (l.getD (k + q - 1) (0, 0, 0)) := by rw [mixC_at (by omega), show k + (q - 1) = k + q - 1 by omega]; simp [List.getD, show k + q - 1 < l.length by omega]
              obtain ⟨a0, a1, a2⟩ := owns_tri hown hx
              obtain ⟨b0, b1, b2⟩ := owns_tri hown hy
              rw [Nat.add_mul] at a0 a1 a2 b0 b1 b2
              have hkk : (compC (0, 0, 0) l (k + q)).length < (mixC (0, 0, 0) l (k + q)).length := by omega
              obtain ⟨o0, o1, o2⟩ := owns_tri hown (List.getElem?_eq_getElem hkk)
              have f0 := hown.frozenAt ((compC (0, 0, 0) l (k + q)).length * 3)
              have f1 := hown.frozenAt ((compC (0, 0, 0) l (k + q)).length * 3 + 1)
              have f2 := hown.frozenAt ((compC (0, 0, 0) l (k + q)).length * 3 + 2)
              have hkp : keepC (0, 0, 0) l (k + q) = !decide (l.getD (k + q) (0, 0, 0) = l.getD (k + q - 1) (0, 0, 0)) := by
                unfold keepC
                rw [show (k + q == 0) = false from by rw [beq_eq_false_iff_ne]; omega, Bool.false_or]
              have HYES := Lib.hid (fun h => mixC_yes (z := ((0, 0, 0) : I3)) hlt2 h)
              have HNO := Lib.hid (fun h => mixC_no (z := ((0, 0, 0) : I3)) (l := l) (m := k + q) h)
              have HSET := Lib.hid (fun x => setL_tri (x := x) hkk)
              have HO := Lib.hid (fun m => show (wr.drewN m).ownsRow B 103 3 (.slice (some ⟨g, 0, none⟩) l.length c) l.length ((mixC (0, 0, 0) l (k + q)).flatMap tri) from hown)
              have HG := Lib.hid (fun m => show w.grownBy (wr.drewN m) (some g) from ⟨hgr.os, hgr.tape, hgr.output, hgr.size, hgr.block⟩)
              have EQ := Lib.hid (eqT3 (l.getD (k + q) (0, 0, 0)).1 (l.getD (k + q) (0, 0, 0)).2.1 (l.getD (k + q) (0, 0, 0)).2.2 (l.getD (k + q - 1) (0, 0, 0)).1 (l.getD (k + q - 1) (0, 0, 0)).2.1 (l.getD (k + q - 1) (0, 0, 0)).2.2)
              have HAS := Lib.hid (show k + (q + 1) = k + q + 1 from rfl)
              clear hown hgr hx hy hml
              generalize l.getD (k + q) (0, 0, 0) = x at *
              generalize l.getD (k + q - 1) (0, 0, 0) = y at *
              generalize (mixC (0, 0, 0) l (k + q))[(compC (0, 0, 0) l (k + q)).length] = old at *
              generalize hmx : mixC (0, 0, 0) l (k + q) = mx at *
              generalize hkk2 : (compC (0, 0, 0) l (k + q)).length = kk at *
              have HMX := Lib.hid hmx
              have HKK := Lib.hid hkk2
              clear hmx hkk2
              have heq : (x.1 == y.1 && x.2.1 == y.2.1 && x.2.2 == y.2.2) = decide (x = y) := by
                obtain ⟨x1, x2, x3⟩ := x
                obtain ⟨y1, y2, y3⟩ := y
                rw [Bool.eq_iff_iff]
                simp [and_assoc]
              rw [heq] at EQ
              have q0 : (0 : Int) ≤ (q : Int) := by omega
              have q1 : (q : Int) < ((l.length - k : Nat) : Int) := by omega
              have q2 : (0 : Int) ≤ (q : Int) - 1 := by omega
              have q3 : (q : Int) - 1 < ((l.length - k : Nat) : Int) := by omega
              have q4 : ((q : Int) - 1).toNat = q - 1 := by omega
              have q5 : (0 : Int) ≤ (kk : Int) := by omega
              have q6 : (kk : Int) < (l.length : Int) := by omega
              cases hd : decide (x = y)
              · rw [hd] at EQ hkp
                have HY := Lib.hid (HYES.out hkp)
                rw [hkp, if_pos (show (!false) = true from rfl)] at hst
                have HST := Lib.hid hst
                have eqx := EQ.out
                have HOS := Lib.hid (fun m => owns_setCells (tri x) _ (kk * 3) _ (HO.out m))
                have HGS := Lib.hid (fun m => show w.grownBy ((wr.drewN m).setCells g (kk * 3) (tri x)) (some g) from (HG.out m).trans (let hk := kept_setCells (S := fun q => some g = some q) rfl (tri x) (wr.drewN m) (wr.drewN m) (kk * 3) (Kept.refl _ _); ⟨hk.os, hk.tape, hk.output, hk.size, fun j hj hne => hk.block j hj (fun e => hne e.symm)⟩))
                clear hkp heq hd hst EQ
                go_wp2_with fail
                go_quiet (fail)
                go_wp2_with fail
                go_roundw
                case rel => exact ⟨q + 1, by omega, by omega, by go_num, by rw [HAS.out, HST.out]; go_num, by rw [HAS.out, HST.out]; omega, by rw [HAS.out, ← HY.out, ← HSET.out]; exact HOS.out _, HGS.out _⟩
                case measure => simp [intOf]; omega
              · rw [hd] at EQ hkp
                have HY := Lib.hid (HNO.out hkp)
                rw [hkp, if_neg (show ¬ (!true) = true from Bool.false_ne_true)] at hst
                have HST := Lib.hid hst
                have eqx := EQ.out
                clear hkp heq hd hst EQ
                go_wp2_with fail
                go_quiet (fail)
                go_wp2_with fail
                go_roundw
                case rel => exact ⟨q + 1, by omega, by omega, by go_num, by rw [HAS.out, HST.out]; go_num, by rw [HAS.out, HST.out]; omega, by rw [HAS.out, HY.out]; exact HO.out _, HG.out _⟩
                case measure => simp [intOf]; omega
            · have hend : k + q = l.length := by omega
              rw [hend] at hle hown hml
              rw [hend]
              have hkk : (compC (0, 0, 0) l l.length).length < l.length := by omega
              have htk := mixC_take (z := ((0, 0, 0) : I3)) (l := l) (m := l.length)
              have hcell : ∀ j, j < (l.length - (compC (0, 0, 0) l l.length).length) * 3 → (wr.cell? ⟨g, (compC (0, 0, 0) l l.length).length * 3 + j, none⟩).isSome = true := fun j hj => by
                have := hown.cellAt ((compC (0, 0, 0) l l.length).length * 3 + j) (by omega)
                rw [this]
                have hl3 : ((mixC (0, 0, 0) l l.length).flatMap tri).length = l.length * 3 := by rw [tri_len, hml]
                rw [List.getElem?_eq_getElem (by omega)]
                rfl
              have hcl : ∀ ty, (Builtin.clear_ #[25] ty #[.slice (some ⟨g, (compC (0, 0, 0) l l.length).length * 3, none⟩) (l.length - (compC (0, 0, 0) l l.length).length) (c - (compC (0, 0, 0) l l.length).length)]).run Tryz.prog wr = .ok (.tuple #[]) (wr.setCells g ((compC (0, 0, 0) l l.length).length * 3) (Builtin.zeroCells (Value.agg #[.int .i64 0, .int .i64 0, .int .i64 0]).cells (l.length - (compC (0, 0, 0) l l.length).length)).toList) := fun ty =>
                run_clear_rows wr _ _ ty _ 3 Tryz.underlying25 Tryz.zeroValue103 rfl (fun v hv => by simp [Value.cells] at hv; subst hv; rfl) g _ _ _ (by omega) (by omega) hcell (fun j hj => hown.frozenAt _)
              have ho2 := owns_take (owns_setCells (Builtin.zeroCells (Value.agg #[.int .i64 0, .int .i64 0, .int .i64 0]).cells (l.length - (compC (0, 0, 0) l l.length).length)).toList wr ((compC (0, 0, 0) l l.length).length * 3) _ hown) (k := (compC (0, 0, 0) l l.length).length) (by omega)
              have htk3 : ((mixC (0, 0, 0) l l.length).flatMap tri).take ((compC (0, 0, 0) l l.length).length * 3) = (compC (0, 0, 0) l l.length).flatMap tri := by
                have e : mixC (0, 0, 0) l l.length = compC (0, 0, 0) l l.length ++ (mixC (0, 0, 0) l l.length).drop (compC (0, 0, 0) l l.length).length := by
                  conv => lhs; rw [← List.take_append_drop (compC (0, 0, 0) l l.length).length (mixC (0, 0, 0) l l.length), htk]
                rw [e, List.flatMap_append, List.take_append_of_le_length (by rw [tri_len]; omega), List.take_of_length_le (by rw [tri_len]; omega)]
              rw [setL_take _ _ _ _ (Nat.le_refl _), htk3] at ho2
              have HO2 := Lib.hid ho2
              have hk2 := kept_setCells (S := fun q => some g = some q) (g := g) rfl (Builtin.zeroCells (Value.agg #[.int .i64 0, .int .i64 0, .int .i64 0]).cells (l.length - (compC (0, 0, 0) l l.length).length)).toList wr wr ((compC (0, 0, 0) l l.length).length * 3) (Kept.refl _ _)
              have HG2 := Lib.hid (hgr.trans ⟨hk2.os, hk2.tape, hk2.output, hk2.size, fun j hj hne => hk2.block j hj (fun e => hne e.symm)⟩)
              clear htk hcell ho2 htk3 hk2 hown hgr hml
              generalize (Builtin.zeroCells (Value.agg #[.int .i64 0, .int .i64 0, .int .i64 0]).cells (l.length - (compC (0, 0, 0) l l.length).length)).toList = zs at *
              generalize hkk2 : (compC (0, 0, 0) l l.length).length = kk at *
              have HKK := Lib.hid hkk2
              clear hkk2 hke hkc hkd
              have hkc : ¬ c = kk := by omega
              have hkd : ¬ kk = c := by omega
              have hke : ((kk : Int) == (c : Int)) = false := by rw [beq_eq_false_iff_ne]; omega
              have q5 : (0 : Int) ≤ (kk : Int) := by omega
              have q6 : (kk : Int) ≤ (c : Int) := by omega
              have q7 : (kk : Int) ≤ (l.length : Int) := by omega
              have q8 : ¬ ((q : Int) < ((l.length - k : Nat) : Int)) := by omega
              go_wp2_with fail
              go_ret
              refine ⟨?_, ?_, HG2.out⟩
              · rw [HKK.out]; rfl
              · rw [HKK.out]; exact HO2.out
      · obtain rfl : k = l.length := by omega
        rw [List.take_length] at hco
        have HCO := Lib.hid hco
        clear hco hown hgr
        go_wp2_with fail
        go_ret
        rw [HCO.out]
        exact ⟨rfl, HO.out 0, HG.out 0⟩

end Go.Proofs.YtdgnhfhaaghoaaaGreatDoor
