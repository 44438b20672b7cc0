/- The law of ions: plain. The laws' own helpers over lists of numbers: vInts, vHas, vBig. -/
import Derived.Test.YtijkdpdmclkmlaaGreatDoorJ40
import Derived.Test.YtijkdpdmclkmlaaGreatDoorJ43
import Derived.Test.YtijkdpdmclkmlaaGreatDoorJ45
import Derived.Test.YtijkdpdmclkmlaaGreatDoorJ9
import Derived.Test.YtijkdpdmclkmlaaGreatDoorProg
import Derived.Test.YtijkdpdmclkmlaaGreatDoorJ5
set_option linter.unusedSimpArgs false
set_option linter.unusedVariables false
set_option maxRecDepth 100000
set_option maxHeartbeats 16000000
namespace Go.Proofs.YtijkdpdmclkmlaaGreatDoor
open Go.RowKit
theorem names_sort {l : List ByteArray} (h : allNamesB l = true) (hl : l.length ≤ 16) : namesB (sortS l) = true := by
  have hn : ∀ s ∈ sortS l, nameB s = true := fun s hs => by
    have hs := sortS_mem.1 hs
    obtain ⟨i, hi, rfl⟩ := List.getElem_of_mem hs
    unfold allNamesB at h
    rw [allR_iff] at h
    have := h i hi
    rwa [show l.getD i default = l[i] from by simp [List.getD, hi]] at this
  unfold namesB
  rw [Bool.and_eq_true, allR_iff, decide_eq_true_eq]
  refine ⟨fun i hi => ?_, Nat.le_trans (sortS_len l) hl⟩
  unfold nameAt
  rw [Bool.and_eq_true]
  refine ⟨hn _ (by rw [show (sortS l).getD i default = (sortS l)[i] from by simp [List.getD, hi]]; exact List.getElem_mem hi), ?_⟩
  rcases Nat.eq_zero_or_pos i with h0 | h0
  · subst h0; rfl
  have ha := List.pairwise_iff_getElem.1 (sortS_asc l) (i - 1) i (by omega) hi (by omega)
  rw [show (sortS l).getD i default = (sortS l)[i] from by simp [List.getD, hi], show (sortS l).getD (i - 1) default = (sortS l)[i - 1] from by simp [List.getD, show i - 1 < (sortS l).length by omega], Bool.or_eq_true]
  exact .inr ha

section
variable {sig : List Ct} {ct : Int} {fr tos names : List ByteArray} {o : Bool} {g : Gr}
theorem io_sub (ho : o = subOk fr tos) (h : o = true) (hg : g = if o then subG fr tos (sortS tos) else zeroG) : openR sigK g = true := by
  rw [h] at ho
  have ho := ho.symm
  unfold subOk at ho
  simp only [Bool.and_eq_true, beq_iff_eq] at ho
  have hl : tos.length = fr.length := by omega
  have := names_len ho.1.1
  have hgd := sub_good sigK_ok ho.1.1 (names_sort ho.2 (by omega)) hl (fun s hs => sortS_mem.2 hs)
  rw [hg, h, if_pos rfl, openR_eq, wirR_eq, (good_iff sigK _).2 hgd]
  rfl
theorem io_new (ho : o = namesB names) (h : o = true) (hg : g = if o then newG names else zeroG) : openR sigK g = true := by
  rw [h] at ho
  rw [hg, h, if_pos rfl, openR_eq, wirR_eq, (good_iff sigK _).2 (new_good sigK_ok names_none ho.symm)]
  rfl
theorem io_clo (ho : o = (namesB names && decide (names.length ≤ 8))) (h : o = true) (hg : g = if o then cloG names else zeroG) : wirR sigK g = true := by
  rw [h] at ho
  have ho := ho.symm
  rw [Bool.and_eq_true, decide_eq_true_eq] at ho
  rw [hg, h, if_pos rfl, wirR_eq, (good_iff sigK _).2 (clo_good sigK_ok names_none ho.1 ho.2)]
  rfl
theorem ion_parts (h : ionB sig ct names = true) : sigB sig = true ∧ (0 ≤ ct ∧ ct < sig.length) ∧ (names.length : Int) = portsA sig ct ∧ namesB (sortS names) = true := by
  unfold ionB at h
  simp only [Bool.and_eq_true, beq_iff_eq] at h
  have hi := inB_true h.1.1.2
  refine ⟨h.1.1.1, by omega, h.1.2, names_sort h.2 ?_⟩
  have hs := h.1.1.1
  unfold sigB at hs
  rw [Bool.and_eq_true, allR_iff] at hs
  have h2 := hs.2 ct.toNat (by omega)
  unfold ctB at h2
  simp only [Bool.and_eq_true] at h2
  have h3 := inB_true h2.1.1.2
  have h4 := h.1.2
  unfold portsA at h4
  omega
theorem atom_ok (h : ionB sig ct names = true) : GoodP sig (atomG ct names (sortS names)) := by
  obtain ⟨h1, h2, h3, h4⟩ := ion_parts h
  exact atom_good h1 names_none h4 h2 h3 (fun s hs => sortS_mem.2 hs)
theorem io_atom (ho : o = ionB sig ct names) (h : o = true) (hg : g = if o then atomG ct names (sortS names) else zeroG) : primR sig g = true ∧ leanR sig g = true ∧ agentR sig g = true := by
  rw [h] at ho
  rw [hg, h, if_pos rfl]
  have hgd := (good_iff sig _).2 (atom_ok ho.symm)
  refine ⟨?_, ?_, ?_⟩
  · rw [primR_eq, hgd]; rfl
  · rw [leanR_eq, hgd]; rfl
  unfold agentR; rw [hgd]; rfl
theorem ionB_of (h : okI sig ct names = true) : ionB sig ct names = true ∧ kindA sig ct ≠ 2 := by
  unfold okI at h
  rw [Bool.and_eq_true] at h
  exact ⟨h.1, by simpa using h.2⟩
theorem ion_ok (h : okI sig ct names = true) : GoodP sig (ionG ct names (sortS names)) := by
  obtain ⟨h0, hk⟩ := ionB_of h
  obtain ⟨h1, h2, h3, h4⟩ := ion_parts h0
  exact ion_good h1 names_none h4 h2 h3 (fun s hs => sortS_mem.2 hs) hk
/-- An ion after an empty root. -/
theorem io_ion (ho : o = okI sig ct names) (h : o = true) (hg : g = if o then ionG ct names (sortS names) else zeroG) : compR sig g (barG 1) = true ∧ compG g (barG 1) = atomG ct names (sortS names) ∧ guardR sig g = true ∧ ionB sig ct names = true := by
  rw [h] at ho
  have ho := ho.symm
  obtain ⟨h0, _⟩ := ionB_of ho
  have hi := ion_ok ho
  rw [hg, h, if_pos rfl]
  refine ⟨comp_ok hi (bar_good hi.sg names_none (by decide) (by decide)) ⟨rfl, rfl⟩ (by rw [ion_bar]; exact atom_ok h0), ion_bar _ _ _, ?_, h0⟩
  rw [guardR_eq, (good_iff sig _).2 hi]
  rfl
end

set_option maxHeartbeats 1000000 in
theorem vInts_any (A B : Option Addr) (c d : Nat) (xs ys : List Int) (w : World) (hn : xs.length ≤ 16777216) (hm : ys.length ≤ 16777216) (hA : Cells w A (ints xs)) (hB : Cells w B (ints ys)) :
    Calls Tryz.prog 104 #[.slice A xs.length c, .slice B ys.length d] w fun e w' => e = .returned (.bool (sameI xs ys)) ∧ Below w.heap.size w w' := by
  by_cases hl : xs.length = ys.length
  · have hl' : ((xs.length : Int) == (ys.length : Int)) = true := by simp [hl]
    have hl'' : ((xs.length : Int) != (ys.length : Int)) = false := by simp [hl]
    have HL := Lib.hid hl
    clear hl
    go_enter Tryz.func104, Tryz.ntmps104
    go_wp2
    go_loopw [5] (fun i wr => ∃ k : Nat, k ≤ xs.length ∧ i = .int .i64 k ∧ (∀ j, j < k → xs.getD j 0 = ys.getD j 0) ∧ Below w.heap.size w wr)
      (fun i _ => xs.length - (intOf i).toNat)
    case atStart => exact ⟨0, Nat.zero_le _, rfl, fun j hj => by omega, Below.refl _ _⟩
    obtain ⟨k, hk, rfl, hsame, hbel⟩ := hrel
    have HS := Lib.hid hsame
    clear hsame
    by_cases hlt : k < xs.length
    · have hlt2 : k < ys.length := by have := HL.out; omega
      obtain ⟨b, o, rfl, hc⟩ := (hA.below hbel).int hlt
      have hck := hc k hlt
      obtain ⟨b', o', rfl, hc'⟩ := (hB.below hbel).int hlt2
      have hck' := hc' k hlt2
      clear hc hc' hA hB
      by_cases hx : xs.getD k 0 = ys.getD k 0
      · have HX := Lib.hid hx
        have hb0 : (xs.getD k 0 != ys.getD k 0) = false := by rw [hx, bne_self_eq_false]
        clear hx
        obtain ⟨x, ex⟩ : ∃ x, x = xs.getD k 0 := ⟨_, rfl⟩
        obtain ⟨y, ey⟩ : ∃ y, y = ys.getD k 0 := ⟨_, rfl⟩
        rw [← ex] at hck hb0
        rw [← ey] at hck' hb0
        clear ex ey
        go_wp2
        go_quiet (fail)
        go_wp2
        go_roundw
        case rel =>
          refine ⟨k + 1, by omega, by go_num, fun j hj => ?_, below_drewN' hbel _⟩
          rcases Nat.lt_succ_iff_lt_or_eq.1 hj with h | h
          · exact HS.out j h
          rw [h]; exact HX.out
        case measure => simp [intOf]; omega
      have E := sameI_at hx
      have HE := Lib.hid E
      have hb0 : (xs.getD k 0 != ys.getD k 0) = true := by rw [bne_iff_ne]; exact hx
      clear hx E
      obtain ⟨x, ex⟩ : ∃ x, x = xs.getD k 0 := ⟨_, rfl⟩
      obtain ⟨y, ey⟩ : ∃ y, y = ys.getD k 0 := ⟨_, rfl⟩
      rw [← ex] at hck hb0
      rw [← ey] at hck' hb0
      clear ex ey
      go_wp2
      go_quiet (fail)
      go_wp2
      go_ret
      exact ⟨by rw [HE.out]; rfl, below_drewN' hbel _⟩
    obtain rfl : k = xs.length := by omega
    have E := sameI_all HL.out HS.out
    have HE := Lib.hid E
    clear E
    go_wp2
    go_ret
    exact ⟨by rw [HE.out]; rfl, hbel⟩
  have hl' : ((xs.length : Int) == (ys.length : Int)) = false := by rw [beq_eq_false_iff_ne]; omega
  have hl'' : ((xs.length : Int) != (ys.length : Int)) = true := by rw [bne_iff_ne]; omega
  have HE := Lib.hid (sameI_len hl)
  clear hl
  go_enter Tryz.func104, Tryz.ntmps104
  go_wp2
  go_ret
  exact ⟨by rw [HE.out]; rfl, Below.refl _ _⟩

theorem vBig_any (A : Option Addr) (n c : Nat) (w : World) (hn : n ≤ maxLen) :
    Calls Tryz.prog 10 #[.slice A n c] w fun e w' => e = .returned (.bool (decide (65536 < n))) ∧ w = w' := by
  by_cases h : 65536 < n
  · have h' : (65536 : Int) < (n : Int) := by omega
    go_enter Tryz.func10, Tryz.ntmps10
    go_wp2
    go_ret
    exact ⟨by simp [h], rfl⟩
  have h' : ¬ (65536 : Int) < (n : Int) := by omega
  go_enter Tryz.func10, Tryz.ntmps10
  go_wp2
  go_ret
  exact ⟨by simp [h], rfl⟩

end Go.Proofs.YtijkdpdmclkmlaaGreatDoor
