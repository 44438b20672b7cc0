/- A list without neighbours that are the same: plain. Marks: memory of a call's own is written over with numbers that rise, and asked for them. []int and [][]int. slices.Compact at strings: library walked. -/
import Derived.Test.YtijkdpdmclkmlaaGreatDoorJ0
import Derived.Lib.SliceRun
import Derived.Test.YtijkdpdmclkmlaaGreatDoorProg
import Derived.Handy
import Derived.StillTailTactics
import Derived.Laws.AppendOwnNone
import Derived.Deep.RegionLaw
import Derived.Test.YtijkdpdmclkmlaaGreatDoorJ2
import Derived.Test.YtijkdpdmclkmlaaGreatDoorJ17
import Derived.Deep.QuietTactic
import Derived.BigQuiet
set_option linter.unusedSimpArgs false
set_option linter.unusedVariables false
set_option maxRecDepth 100000
set_option maxHeartbeats 16000000
namespace Go.Proofs.YtijkdpdmclkmlaaGreatDoor
open Go.RowKit
section
variable {α : Type} [DecidableEq α] (z : α)
def keepC (l : List α) (i : Nat) : Bool := i == 0 || !decide (l.getD i z = l.getD (i - 1) z)
/-- The first m elements without those that are the same as the one before. -/
def compC (l : List α) (m : Nat) : List α := ((List.range m).filter (keepC z l)).map fun i => l.getD i z
def mixC (l : List α) (m : Nat) : List α := compC z l m ++ l.drop (compC z l m).length
variable {z}
theorem compC_yes {l : List α} {m : Nat} (h : keepC z l m = true) : compC z l (m + 1) = compC z l m ++ [l.getD m z] := by
  unfold compC
  rw [List.range_succ, List.filter_append, List.filter_cons, h, List.map_append]
  rfl
theorem compC_no {l : List α} {m : Nat} (h : keepC z l m = false) : compC z l (m + 1) = compC z l m := by
  unfold compC
  rw [List.range_succ, List.filter_append, List.filter_cons, h]
  simp
theorem compC_len (l : List α) (m : Nat) : (compC z l m).length ≤ m := by
  unfold compC
  rw [List.length_map]
  exact Nat.le_trans (List.length_filter_le _ _) (by simp)
theorem compC_one (l : List α) (h : 1 ≤ l.length) : compC z l 1 = l.take 1 := by
  cases l with
  | nil => simp at h
  | cons a l => simp [compC, keepC]
theorem compC_take {l : List α} {k : Nat} (hk : k ≤ l.length) (h : compC z l k = l.take k) (hl : k < l.length) (hy : keepC z l k = true) : compC z l (k + 1) = l.take (k + 1) := by
  rw [compC_yes hy, h, List.take_succ_eq_append_getElem hl]
  simp [List.getD, hl]
theorem mixC_start {l : List α} {k : Nat} (h : compC z l k = l.take k) (hl : k < l.length) (hn : keepC z l k = false) : mixC z l (k + 1) = l := by
  unfold mixC
  rw [compC_no hn, h, List.length_take, Nat.min_eq_left (by omega), List.take_append_drop]
theorem mixC_len {l : List α} {m : Nat} (hm : m ≤ l.length) : (mixC z l m).length = l.length := by
  unfold mixC
  have := compC_len (z := z) l m
  rw [List.length_append, List.length_drop]
  omega
theorem mixC_at {l : List α} {m j : Nat} (h : (compC z l m).length ≤ j) : (mixC z l m)[j]? = l[j]? := by
  unfold mixC
  rw [List.getElem?_append_right h, List.getElem?_drop]
  congr 1
  omega
theorem mixC_no {l : List α} {m : Nat} (h : keepC z l m = false) : mixC z l (m + 1) = mixC z l m := by
  unfold mixC
  rw [compC_no h]
theorem mixC_yes {l : List α} {m : Nat} (hm : m < l.length) (h : keepC z l m = true) : (mixC z l m).set (compC z l m).length (l.getD m z) = mixC z l (m + 1) := by
  have hl := compC_len (z := z) l m
  unfold mixC
  have hd : l.drop (compC z l m).length = l[(compC z l m).length]'(by omega) :: l.drop ((compC z l m).length + 1) := List.drop_eq_getElem_cons (by omega)
  rw [compC_yes h, List.set_append_right _ _ (Nat.le_refl _), Nat.sub_self, hd, List.set_cons_zero, List.length_append]
  simp only [List.length_cons, List.length_nil, Nat.zero_add, List.append_assoc, List.cons_append, List.nil_append]
theorem mixC_take {l : List α} {m : Nat} : (mixC z l m).take (compC z l m).length = compC z l m := by
  unfold mixC
  simp
theorem compC_step (l : List α) (m : Nat) : (compC z l (m + 1)).length = (compC z l m).length + if keepC z l m then 1 else 0 := by
  cases h : keepC z l m
  · rw [compC_no h]; rfl
  rw [compC_yes h]; simp
theorem compC_mem {l : List α} {x : α} : x ∈ compC z l l.length ↔ x ∈ l := by
  unfold compC
  simp only [List.mem_map, List.mem_filter, List.mem_range]
  constructor
  · rintro ⟨i, ⟨hi, _⟩, rfl⟩
    simp [List.getD, hi]
  intro hx
  obtain ⟨i, hi, rfl⟩ := List.getElem_of_mem hx
  induction i using Nat.strongRecOn with
  | ind i ih =>
    cases h : keepC z l i
    · unfold keepC at h
      simp only [Bool.or_eq_false_iff, beq_eq_false_iff_ne, ne_eq, Bool.not_eq_false', decide_eq_true_eq] at h
      obtain ⟨j, hj, e⟩ := ih (i - 1) (by omega) (by omega) (List.getElem_mem (by omega))
      refine ⟨j, hj, e.trans ?_⟩
      have := h.2
      simp only [List.getD, hi, show i - 1 < l.length by omega, List.getElem?_eq_getElem, Option.getD_some] at this
      exact this.symm
    exact ⟨i, ⟨hi, h⟩, by simp [List.getD, hi]⟩
/-- A list in order gives one that is strictly in order. -/
theorem compC_strict {R : α → α → Prop} {S : α → α → Prop} (hRS : ∀ a b, R a b → a ≠ b → S a b) (hS : ∀ a b c, R a b → S b c → S a c) {l : List α} (h : l.Pairwise R) (hr : ∀ a, R a a) : (compC z l l.length).Pairwise S := by
  unfold compC
  rw [List.pairwise_map]
  have h0 : ((List.range l.length).filter (keepC z l)).Pairwise (fun a b => a < b ∧ b < l.length ∧ keepC z l b = true) := by
    have h1 := (List.pairwise_lt_range (n := l.length)).filter (keepC z l)
    rw [List.pairwise_iff_getElem] at h1 ⊢
    intro i j hi hj hij
    have hm := List.getElem_mem hj
    rw [List.mem_filter, List.mem_range] at hm
    exact ⟨h1 i j hi hj hij, hm.1, hm.2⟩
  refine h0.imp ?_
  rintro a b ⟨hab, hb, hk⟩
  unfold keepC at hk
  simp only [Bool.or_eq_true, beq_iff_eq, Bool.not_eq_true', decide_eq_false_iff_not] at hk
  have hb1 : b - 1 < l.length := by omega
  rcases hk with hk | hk
  · omega
  simp only [List.getD, hb, hb1, show a < l.length by omega, List.getElem?_eq_getElem, Option.getD_some] at hk ⊢
  have hlt : R l[b - 1] l[b] := (List.pairwise_iff_getElem.1 h) _ _ hb1 hb (by omega)
  have hs := hRS _ _ hlt (fun e => hk e.symm)
  by_cases e : a = b - 1
  · subst e; exact hs
  exact hS _ _ _ ((List.pairwise_iff_getElem.1 h) a (b - 1) (by omega) hb1 (by omega)) hs
end

theorem setL_take {α : Type} : ∀ (cs l : List α) (i j : Nat), j ≤ i → (setL l i cs).take j = l.take j
  | [], _, _, _, _ => rfl
  | c :: cs, l, i, j, h => by rw [setL, setL_take cs _ _ _ (by omega), List.take_set_of_le h]
theorem owns_take {w : World} {B : Nat} {e : TypeId} {size g n c k : Nat} {xs : List Value} (h : w.ownsRow B e size (.slice (some ⟨g, 0, none⟩) n c) n xs) (hk : k ≤ n) : w.ownsRow B e size (.slice (some ⟨g, 0, none⟩) k c) k (xs.take (k * size)) := by
  have hl := h.1
  have hm := Nat.mul_le_mul_right size hk
  rcases h.2 with ⟨e1, _⟩ | ⟨g', cap, cur, e1, h1, h2, h3, h4, h5, h6⟩
  · cases e1
  cases e1
  refine ⟨by rw [List.length_take]; omega, .inr ⟨g, c, cur, rfl, h1, h2, by omega, h4, h5, ?_⟩⟩
  rw [← h6, List.take_take, Nat.min_eq_left hm]
theorem run_clear_rows {P : Program} (w : World) (t e ty : TypeId) (z : Value) (size : Nat) (ht : P.underlying t = some (.slice e)) (hv : ∀ w, (zeroValue e).run P w = .ok z w) (hz : z.cells.size = size) (h1 : ∀ v ∈ z.cells, v.oneCell' = true) (b o n c : Nat) (hn : 0 < n) (h0 : 0 < size)
    (hc : ∀ j, j < n * size → (w.cell? ⟨b, o + j, none⟩).isSome = true) (hf : ∀ j, j < n * size → w.frozen? ⟨b, o + j, none⟩ = false) :
    (Builtin.clear_ #[t] ty #[.slice (some ⟨b, o, none⟩) n c]).run P w = .ok (.tuple #[]) (w.setCells b o (Builtin.zeroCells z.cells n).toList) := by
  have hzl : (Builtin.zeroCells z.cells n).toList.length = n * size := by simp [Builtin.zeroCells, hz]
  have hz1 : ∀ v ∈ (Builtin.zeroCells z.cells n).toList, v.oneCell' = true := by
    intro v hv
    simp only [Builtin.zeroCells, Array.toList_map, List.mem_map] at hv
    obtain ⟨i, _, rfl⟩ := hv
    refine h1 _ ?_
    have hlt : i % z.cells.size < z.cells.size := Nat.mod_lt _ (by omega)
    simp [hlt]
  have hst := run_storeCells_cells (P := P) b o (Builtin.zeroCells z.cells n).toList 0 w (by rw [hzl]; simpa using hc) (by rw [hzl]; simpa using hf) hz1
  simp only [Nat.add_zero] at hst
  obtain ⟨m, rfl⟩ : ∃ m, n = m + 1 := ⟨n - 1, by omega⟩
  simp [Builtin.clear_, run_underlying ht, hv, hst]

/-- n numbers from k on. -/
def up (k : Int) (n : Nat) : List Int := (List.range n).map fun (i : Nat) => k + (i : Int)

/-- An owned row of numbers, read at a place. -/
theorem owns_strC {w : World} {B g n c : Nat} {l : List ByteArray} (h : w.ownsRow B 9 1 (.slice (some ⟨g, 0, none⟩) n c) n (strs l)) {k : Nat} {x : ByteArray} (hx : l[k]? = some x) : w.cell? ⟨g, k, none⟩ = some (.string x) := by
  obtain ⟨b, o, e, hc⟩ := (Cells.of_owns h).at_ (k := k) (by have := (List.getElem?_eq_some_iff.1 hx).1; simpa [strs] using this)
  cases e
  have := hc k (.string x) (by simp [strs, hx])
  rw [Nat.zero_add] at this
  exact this

theorem strsC_len (l : List ByteArray) : (strs l).length = l.length := by simp [strs]
theorem strsC_app (a b : List ByteArray) : strs (a ++ b) = strs a ++ strs b := by simp [strs]

theorem compactS_any (g c B : Nat) (l : List ByteArray) (w : World) (hn : l.length ≤ 1000000) (h : w.ownsRow B 9 1 (.slice (some ⟨g, 0, none⟩) l.length c) l.length (strs l)) :
    Calls Tryz.prog 200 #[.slice (some ⟨g, 0, none⟩) l.length c] w fun e w' => e = .returned (.slice (some ⟨g, 0, none⟩) (compC default l l.length).length c) ∧ w'.ownsRow B 9 1 (.slice (some ⟨g, 0, none⟩) (compC default l l.length).length c) (compC default l l.length).length (strs (compC default l l.length)) ∧ w.grownBy w' (some g) := by
  have hcap : l.length ≤ c := by
    rcases h.2 with ⟨e, _⟩ | ⟨_, _, _, e, _, _, h1, _⟩
    · cases e
    cases e; exact h1
  have hcm : c ≤ maxLen := by
    rcases h.2 with ⟨e, _⟩ | ⟨_, _, _, e, _, _, _, h1, _⟩
    · cases e
    cases e; exact h1
  have hgB : B ≤ g := (h.lt g rfl).1
  unfold maxLen at hcm
  have HO := Lib.hid h
  by_cases h2 : l.length < 2
  · have hall : compC default l l.length = l := by
      match l, h2 with
      | [], _ => rfl
      | [a], _ => rfl
      | a :: b :: l, h2 => simp at h2; omega
    have HE := Lib.hid hall
    clear h hall
    go_enter Tryz.func200, Tryz.ntmps200
    go_wp2_with fail
    go_ret
    rw [HE.out]
    exact ⟨rfl, HO.out, World.grownBy.refl _ _⟩
  clear h
  go_enter Tryz.func200, Tryz.ntmps200
  go_wp2_with fail
  go_loopw [3] (fun i wr => ∃ k : Nat, 1 ≤ k ∧ k ≤ l.length ∧ i = .int .i64 k ∧ compC default l k = l.take k ∧ wr.ownsRow B 9 1 (.slice (some ⟨g, 0, none⟩) l.length c) l.length (strs l) ∧ w.grownBy wr (some g))
    (fun i _ => l.length - (intOf i).toNat)
  case atStart => exact ⟨1, Nat.le_refl _, by omega, rfl, compC_one l (by omega), HO.out, World.grownBy.refl _ _⟩
  clear HO
  obtain ⟨k, hk1, hk, rfl, hco, hown, hgr⟩ := hrel
  have HCO := Lib.hid hco
  have HO := Lib.hid (fun m => show (wr.drewN m).ownsRow B 9 1 (.slice (some ⟨g, 0, none⟩) l.length c) l.length (strs l) from hown)
  have HG := Lib.hid (fun m => show w.grownBy (wr.drewN m) (some g) from ⟨hgr.os, hgr.tape, hgr.output, hgr.size, hgr.block⟩)
  by_cases hlt : k < l.length
  · have hx : l[k]? = some (l.getD k default) := by simp [List.getD, hlt]
    have hy : l[k - 1]? = some (l.getD (k - 1) default) := by simp [List.getD, show k - 1 < l.length by omega]
    have a0 := owns_strC hown hx
    have b0 := owns_strC hown hy
    have hkp : keepC default l k = !decide (l.getD k default = l.getD (k - 1) default) := by
      unfold keepC
      rw [show (k == 0) = false from by rw [beq_eq_false_iff_ne]; omega, Bool.false_or]
    have q0 : (0 : Int) ≤ (k : Int) := by omega
    have q1 : (k : Int) < (l.length : Int) := by omega
    have q2 : (0 : Int) ≤ (k : Int) - 1 := by omega
    have q3 : (k : Int) - 1 < (l.length : Int) := by omega
    have q4 : ((k : Int) - 1).toNat = k - 1 := by omega
    clear hown hgr hco
    generalize hxe : l.getD k default = x at *
    generalize hye : l.getD (k - 1) default = y at *
    have HXE := Lib.hid hxe
    have HYE := Lib.hid hye
    clear hxe hye hx hy
    cases hd : decide (x = y)
    · have eqx := str_ne (show x ≠ y by simpa using hd)
      rw [hd] at hkp
      have HN := Lib.hid (compC_take hk HCO.out hlt hkp)
      clear hkp hd
      go_wp2_with fail
      go_quiet (fail)
      go_wp2_with fail
      go_roundw
      case rel => exact ⟨k + 1, by omega, by omega, by go_num, HN.out, HO.out _, HG.out _⟩
      case measure => simp [intOf]; omega
    have eqx : (x.toList == y.toList) = true := by rw [show x = y by simpa using hd]; exact str_eq y
    rw [hd] at hkp
    have HM := Lib.hid (mixC_start HCO.out hlt hkp)
    have HCL := Lib.hid (show (compC default l (k + 1)).length = k by rw [compC_no hkp, HCO.out, List.length_take]; omega)
    clear hkp hd
    have hkc : ¬ c = k := by omega
    have hkd : ¬ k = c := by omega
    have hke : ((k : Int) == (c : Int)) = false := by rw [beq_eq_false_iff_ne]; omega
    have b2' : (k : Int) ≤ (c : Int) := by omega
    go_wp2_with fail
    go_quiet (fail)
    go_wp2_with fail
    clear a0 b0
    go_loopw [3, 5] (fun s3 s5 wr => ∃ q : Nat, 1 ≤ q ∧ k + q ≤ l.length ∧ s5 = .int .i64 q ∧ s3 = .int .i64 (compC default l (k + q)).length ∧ (compC default l (k + q)).length + 1 ≤ k + q ∧ wr.ownsRow B 9 1 (.slice (some ⟨g, 0, none⟩) l.length c) l.length (strs (mixC default l (k + q))) ∧ w.grownBy wr (some g))
      (fun _ s5 _ => l.length - (intOf s5).toNat)
    case atStart => exact ⟨1, Nat.le_refl _, by omega, rfl, by rw [HCL.out], by rw [HCL.out]; omega, by rw [HM.out]; exact HO.out _, HG.out _⟩
    clear HO HG HM HCL eqx HXE HYE
    obtain ⟨q, hq1, hq, rfl, rfl, hle, hown, hgr⟩ := hrel
    have hml := mixC_len (z := (default : ByteArray)) (l := l) (m := k + q) hq
    by_cases hlt2 : k + q < l.length
    · have hst := compC_step (z := (default : ByteArray)) l (k + q)
      have hx : (mixC default l (k + q))[k + q]? = some (l.getD (k + q) default) := by rw [mixC_at (by omega)]; simp [List.getD, hlt2]
      have hy : (mixC default l (k + q))[k + (q - 1)]? = some (l.getD (k + q - 1) default) := by rw [mixC_at (by omega), show k + (q - 1) = k + q - 1 by omega]; simp [List.getD, show k + q - 1 < l.length by omega]
      have a0 := owns_strC hown hx
      have b0 := owns_strC hown hy
      have hkk : (compC default l (k + q)).length < (mixC default l (k + q)).length := by omega
      have o0 := owns_strC hown (List.getElem?_eq_getElem hkk)
      have f0 := hown.frozenAt ((compC default l (k + q)).length)
      have hkp : keepC default l (k + q) = !decide (l.getD (k + q) default = l.getD (k + q - 1) default) := by
        unfold keepC
        rw [show (k + q == 0) = false from by rw [beq_eq_false_iff_ne]; omega, Bool.false_or]
      have HYES := Lib.hid (fun h => mixC_yes (z := (default : ByteArray)) hlt2 h)
      have HNO := Lib.hid (fun h => mixC_no (z := (default : ByteArray)) (l := l) (m := k + q) h)
      have HSET := Lib.hid (fun (x : ByteArray) => show (strs (mixC default l (k + q))).set (compC default l (k + q)).length (.string x) = strs ((mixC default l (k + q)).set (compC default l (k + q)).length x) from by simp [strs, List.map_set])
      have HO := Lib.hid (fun m => show (wr.drewN m).ownsRow B 9 1 (.slice (some ⟨g, 0, none⟩) l.length c) l.length (strs (mixC default l (k + q))) from hown)
      have HG := Lib.hid (fun m => show w.grownBy (wr.drewN m) (some g) from ⟨hgr.os, hgr.tape, hgr.output, hgr.size, hgr.block⟩)
      have HAS := Lib.hid (show k + (q + 1) = k + q + 1 from rfl)
      clear hown hgr hx hy hml
      generalize l.getD (k + q) default = x at *
      generalize l.getD (k + q - 1) default = y at *
      generalize (mixC default l (k + q))[(compC default l (k + q)).length] = old at *
      generalize hmx : mixC default l (k + q) = mx at *
      generalize hkk2 : (compC default l (k + q)).length = kk at *
      have HMX := Lib.hid hmx
      have HKK := Lib.hid hkk2
      clear hmx hkk2
      have q0 : (0 : Int) ≤ (q : Int) := by omega
      have q1 : (q : Int) < ((l.length - k : Nat) : Int) := by omega
      have q2 : (0 : Int) ≤ (q : Int) - 1 := by omega
      have q3 : (q : Int) - 1 < ((l.length - k : Nat) : Int) := by omega
      have q4 : ((q : Int) - 1).toNat = q - 1 := by omega
      have q5 : (0 : Int) ≤ (kk : Int) := by omega
      have q6 : (kk : Int) < (l.length : Int) := by omega
      cases hd : decide (x = y)
      · have eqy := str_ne (show x ≠ y by simpa using hd); have eqx : (x.toList != y.toList) = true := by rw [bne, eqy]; rfl
        rw [hd] at hkp
        have HY := Lib.hid (HYES.out hkp)
        rw [hkp, if_pos (show (!false) = true from rfl)] at hst
        have HST := Lib.hid hst
        have HOS := Lib.hid (fun m => ((HO.out m).stored kk (.string x)).1)
        have HGS := Lib.hid (fun m => show w.grownBy ((wr.drewN m).setCell ⟨g, kk, none⟩ (.string x)) (some g) from (HG.out m).trans (let hk := (Kept.refl (fun q => some g = some q) (wr.drewN m)).setCell (p := ⟨g, kk, none⟩) rfl (.string x); ⟨hk.os, hk.tape, hk.output, hk.size, fun j hj hne => hk.block j hj (fun e => hne e.symm)⟩))
        clear hkp hd hst
        go_wp2_with fail
        go_quiet (fail)
        go_wp2_with fail
        go_roundw
        case rel => exact ⟨q + 1, by omega, by omega, by go_num, by rw [HAS.out, HST.out]; go_num, by rw [HAS.out, HST.out]; omega, by rw [HAS.out, ← HY.out, ← HSET.out]; exact HOS.out _, HGS.out _⟩
        case measure => simp [intOf]; omega
      have eqy : (x.toList == y.toList) = true := by rw [show x = y by simpa using hd]; exact str_eq y
      have eqx : (x.toList != y.toList) = false := by rw [show x = y by simpa using hd, bne_self_eq_false]
      rw [hd] at hkp
      have HY := Lib.hid (HNO.out hkp)
      rw [hkp, if_neg (show ¬ (!true) = true from Bool.false_ne_true)] at hst
      have HST := Lib.hid hst
      clear hkp hd hst
      go_wp2_with fail
      go_quiet (fail)
      go_wp2_with fail
      go_roundw
      case rel => exact ⟨q + 1, by omega, by omega, by go_num, by rw [HAS.out, HST.out]; go_num, by rw [HAS.out, HST.out]; omega, by rw [HAS.out, HY.out]; exact HO.out _, HG.out _⟩
      case measure => simp [intOf]; omega
    have hend : k + q = l.length := by omega
    rw [hend] at hle hown hml
    rw [hend]
    have hkk : (compC default l l.length).length < l.length := by omega
    have htk := mixC_take (z := (default : ByteArray)) (l := l) (m := l.length)
    have hcell : ∀ j, j < (l.length - (compC default l l.length).length) → (wr.cell? ⟨g, (compC default l l.length).length + j, none⟩).isSome = true := fun j hj => by
      have := hown.cellAt ((compC default l l.length).length + j) (by omega)
      rw [this]
      have hl3 : (strs (mixC default l l.length)).length = l.length := by rw [strsC_len, hml]
      rw [List.getElem?_eq_getElem (by omega)]
      rfl
    have hcl : ∀ ty, (Builtin.clear_ #[24] ty #[.slice (some ⟨g, (compC default l l.length).length, none⟩) (l.length - (compC default l l.length).length) (c - (compC default l l.length).length)]).run Tryz.prog wr = .ok (.tuple #[]) (wr.setCells g ((compC default l l.length).length) (Builtin.zeroCells (Value.string ⟨#[]⟩).cells (l.length - (compC default l l.length).length)).toList) := fun ty =>
      run_clear_rows wr _ _ ty _ 1 Tryz.underlying24 Tryz.zeroValue9 rfl (fun v hv => by simp [Value.cells] at hv; subst hv; rfl) g _ _ _ (by omega) (by omega) (fun j hj => hcell j (by omega)) (fun j hj => hown.frozenAt _)
    have ho2 := owns_take (owns_setCells (Builtin.zeroCells (Value.string ⟨#[]⟩).cells (l.length - (compC default l l.length).length)).toList wr ((compC default l l.length).length) _ hown) (k := (compC default l l.length).length) (by omega)
    have htk3 : (strs (mixC default l l.length)).take ((compC default l l.length).length) = strs (compC default l l.length) := by
      have e : mixC default l l.length = compC default l l.length ++ (mixC default l l.length).drop (compC default l l.length).length := by
        conv => lhs; rw [← List.take_append_drop (compC default l l.length).length (mixC default l l.length), htk]
      rw [e, strsC_app, List.take_append_of_le_length (by rw [strsC_len]; omega), List.take_of_length_le (by rw [strsC_len]; omega)]
    rw [Nat.mul_one, setL_take _ _ _ _ (Nat.le_refl _), htk3] at ho2
    have HO2 := Lib.hid ho2
    have hk2 := kept_setCells (S := fun q => some g = some q) (g := g) rfl (Builtin.zeroCells (Value.string ⟨#[]⟩).cells (l.length - (compC default l l.length).length)).toList wr wr ((compC default l l.length).length) (Kept.refl _ _)
    have HG2 := Lib.hid (hgr.trans ⟨hk2.os, hk2.tape, hk2.output, hk2.size, fun j hj hne => hk2.block j hj (fun e => hne e.symm)⟩)
    clear htk hcell ho2 htk3 hk2 hown hgr hml
    generalize (Builtin.zeroCells (Value.string ⟨#[]⟩).cells (l.length - (compC default l l.length).length)).toList = zs at *
    generalize hkk2 : (compC default l l.length).length = kk at *
    have HKK := Lib.hid hkk2
    clear hkk2 hke hkc hkd
    have hkc : ¬ c = kk := by omega
    have hkd : ¬ kk = c := by omega
    have hke : ((kk : Int) == (c : Int)) = false := by rw [beq_eq_false_iff_ne]; omega
    have q5 : (0 : Int) ≤ (kk : Int) := by omega
    have q6 : (kk : Int) ≤ (c : Int) := by omega
    have q7 : (kk : Int) ≤ (l.length : Int) := by omega
    have q8 : ¬ ((q : Int) < ((l.length - k : Nat) : Int)) := by omega
    go_wp2_with fail
    go_ret
    refine ⟨?_, ?_, HG2.out⟩
    · rw [HKK.out]; rfl
    rw [HKK.out]; exact HO2.out
  obtain rfl : k = l.length := by omega
  rw [List.take_length] at hco
  have HCO := Lib.hid hco
  clear hco hown hgr
  go_wp2_with fail
  go_ret
  rw [HCO.out]
  exact ⟨rfl, HO.out 0, HG.out 0⟩

end Go.Proofs.YtijkdpdmclkmlaaGreatDoor
