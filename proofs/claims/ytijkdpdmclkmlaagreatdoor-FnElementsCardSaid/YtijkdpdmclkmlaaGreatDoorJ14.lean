/- Signatures: the program's test walked. The draws of a signature. -/
import Derived.Test.YtijkdpdmclkmlaaGreatDoorProg
import Derived.Test.YtijkdpdmclkmlaaGreatDoorJ0
import Derived.Test.YtijkdpdmclkmlaaGreatDoorJ6
import Derived.Test.YtijkdpdmclkmlaaGreatDoorJ13
import Derived.Test.YtijkdpdmclkmlaaGreatDoorJ12
import Derived.Test.YtijkdpdmclkmlaaGreatDoorJ9
set_option linter.unusedSimpArgs false
set_option linter.unusedVariables false
set_option maxRecDepth 100000
set_option maxHeartbeats 16000000
namespace Go.Proofs.YtijkdpdmclkmlaaGreatDoor
open Go.RowKit
/-- A slice's room is no less than its length. -/
def CapOk (v : Value) : Prop := ∀ A n c, v = .slice A n c → n ≤ c

theorem RSl.take {α : Type} {R : World → List Value → α → Prop} {sz : Nat} {w : World} {A : Option Addr} {c : Nat} {l : List α} (h : RSl R sz w (.slice A l.length c) l) {k : Nat} (hk : k ≤ l.length) : RSl R sz w (.slice A k c) (l.take k) := by
  obtain ⟨A', c', css, e, hm, hl, hsz, hc, hr⟩ := h
  cases e
  have hlen : (l.take k).length = k := by rw [List.length_take]; omega
  refine ⟨A, c, css.take k, by rw [hlen], by rw [hlen]; omega, by rw [hlen, List.length_take]; omega, fun cs hx => hsz cs (List.mem_of_mem_take hx), fun j u hj => ?_, fun i cs x h1 h2 => ?_⟩
  · refine hc j u ?_
    have e : css.flatten = (css.take k).flatten ++ (css.drop k).flatten := by rw [← List.flatten_append, List.take_append_drop]
    rw [e, List.getElem?_append_left (List.getElem?_eq_some_iff.1 hj).1]
    exact hj
  rw [List.getElem?_take] at h1 h2
  split at h1
  · rename_i hi
    rw [if_pos hi] at h2
    exact hr i cs x h1 h2
  cases h1

theorem isSig1_any (d : Ct) (pc : Nat) (s : ByteArray) (w : World) (h : w.cell? ⟨pc, 0, none⟩ = some (.string s)) :
    Calls Tryz.prog 216 #[.agg #[.string d.1, .int .i64 d.2.1, .int .i64 d.2.2], .pointer (some ⟨pc, 0, none⟩)] w fun e w' => e = .returned (.bool (decide (d.1 = s))) ∧ Below w.heap.size w w' := by
  have hal : Below w.heap.size w (w.alloc (.cells #[.string d.1, .int .i64 d.2.1, .int .i64 d.2.2] 44)) := (Below.refl _ _).alloc (Nat.le_refl _) _
  have HB := Lib.hid hal
  have h := cell_below hal h (lt_of_cell h)
  clear hal
  by_cases he : d.1 = s
  · rw [decide_eq_true he]
    have hee := str_eq s
    subst he
    go_enter Tryz.func216, Tryz.ntmps216
    go_wp2_with fail
    go_ret
    exact ⟨rfl, HB.out⟩
  rw [decide_eq_false he]
  have hee := str_ne he
  clear he
  go_enter Tryz.func216, Tryz.ntmps216
  go_wp2_with fail
  go_ret
  exact ⟨rfl, HB.out⟩

theorem isSignature_any (v : Value) (sig : List Ct) (w : World) (hs : SmallS sig) (hcap : CapOk v) (hv : RSl RCt 3 w v sig) :
    Calls Tryz.prog 140 #[v] w fun e w' => e = .returned (.bool (sigB sig)) ∧ Below w.heap.size w w' := by
  have HV := Lib.hid (show ∀ W, Below w.heap.size w W → RSl RCt 3 W v sig from fun W hb => hv.below RCt_keep hb)
  have HZ := Lib.hid (show ∀ k, k < sig.length → (ctA sig k).1.size ≤ 1000 from fun k hk => by
    rw [ctA_get hk]
    exact hs.name _ (List.getElem_mem hk))
  have hl := hs.len
  obtain ⟨A, c, rfl, _⟩ := hv.form
  have hc := hcap A sig.length c rfl
  have HW := Lib.hid within_any
  clear hv hs hcap
  cases hin : inB sig.length 1 6
  · have HE := Lib.hid (show sigB sig = false from by unfold sigB; rw [hin]; rfl)
    go_enter Tryz.func140, Tryz.ntmps140
    go_wp2_with ((with_reducible refine (HW.out _ _ _ _).mono ?_); rintro e w' ⟨rfl, rfl⟩)
    go_ret
    exact ⟨by rw [HE.out]; rfl, Below.refl _ _⟩
  have HIN := Lib.hid hin
  go_enter Tryz.func140, Tryz.ntmps140
  go_wp2_with ((with_reducible refine (HW.out _ _ _ _).mono ?_); rintro e w' ⟨rfl, rfl⟩)
  clear hin
  go_loopw [11] (fun i wr => ∃ k : Nat, k ≤ sig.length ∧ i = .int .i64 k ∧ (∀ j, j < k → ctB sig j = true) ∧ Below w.heap.size w wr)
    (fun i _ => sig.length - (intOf i).toNat)
  case atStart => exact ⟨0, Nat.zero_le _, rfl, fun j hj => by omega, Below.refl _ _⟩
  obtain ⟨i, hi, rfl, hall, hbel⟩ := hrel
  have HALL := Lib.hid hall
  have HBE := Lib.hid hbel
  clear hall
  by_cases hlt : i < sig.length
  · obtain ⟨b, o, c', ev, k0, k1, k2⟩ := ct_at (HV.out wr hbel) hlt
    cases ev
    have HAT := Lib.hid (show ctB sig i = (nameB (ctA sig i).1 && inB (ctA sig i).2.1 0 3 && inB (ctA sig i).2.2 0 2 && !anyR i fun k => decide ((ctA sig k).1 = (ctA sig i).1)) from rfl)
    have HF := Lib.hid (show ctB sig i = false → sigB sig = false from fun h => by unfold sigB; rw [allR_false hlt h, Bool.and_false])
    have HN2 := Lib.hid (show ctB sig i = true → ∀ j, j < i + 1 → ctB sig j = true from fun h => all_next HALL.out h)
    have hz := HZ.out i hlt
    rw [← ctA_get hlt] at k0 k1 k2
    obtain ⟨s, hS⟩ : ∃ s, s = (ctA sig i).1 := ⟨_, rfl⟩
    obtain ⟨x, hX⟩ : ∃ x, x = (ctA sig i).2.1 := ⟨_, rfl⟩
    obtain ⟨y, hY⟩ : ∃ y, y = (ctA sig i).2.2 := ⟨_, rfl⟩
    rw [← hX, ← hY] at HAT
    rw [← hS] at hz k0 HAT
    rw [← hX] at k1
    rw [← hY] at k2
    obtain ⟨wa, hwa, hba, hsa, bxa⟩ := laid1 wr (.cells #[.string s, .int .i64 x, .int .i64 y] 44)
    have HBA := Lib.hid (HBE.out.trans (hba.mono HBE.out.size))
    have HXA := Lib.hid bxa
    have HWA := Lib.hid hwa
    have HN := Lib.hid (isName_any s wa (by unfold maxLen; omega))
    have x0 := cell_of_row _ _ 0 _ _ _ bxa
    have HC := Lib.hid (fun W (hb : Below wa.heap.size wa W) => containsFuncGC_any (.slice (some ⟨b, o, none⟩) i c) (sig.take i) 216 #[.pointer (some ⟨wr.heap.size, 0, none⟩)] (fun k => decide ((ctA sig k).1 = s)) W (by rw [List.length_take]; omega)
      ((HV.out W (HBA.out.trans (hb.mono HBA.out.size))).take (by omega)) (enter_of Tryz.func216 (by kernel_rfl) (by kernel_rfl)) (fun k z W' hk hb' => by
        have hki : k < i := by have := (List.getElem?_eq_some_iff.1 hk).1; rw [List.length_take] at this; omega
        have hzk : z = ctA sig k := by
          rw [List.getElem?_take, if_pos hki, List.getElem?_eq_getElem (by omega)] at hk
          injection hk with hk
          rw [← hk, ctA_get (by omega)]
        subst hzk
        exact isSig1_any (ctA sig k) wr.heap.size s W' (cell_of_row _ _ 0 _ _ _ ((hb'.block _ (by have := hb.size; omega)).trans ((hb.block _ (by omega)).trans bxa)))))
    have hlt' : (sig.take i).length = i := by rw [List.length_take]; omega
    rw [hlt'] at HC
    clear hbel hS hX hY hba hwa
    cases hn : nameB s
    · have HFF := Lib.hid (HF.out (by rw [HAT.out, hn]; rfl))
      rw [hn] at HN
      clear hn
      go_wp2_with fail
      rw [← HWA.out]
      refine HN.out.mono ?_
      rintro e w1 ⟨rfl, hb⟩
      go_wp2_with fail
      go_ret
      exact ⟨by rw [HFF.out]; rfl, HBA.out.trans (hb.mono HBA.out.size)⟩
    rw [hn] at HN
    have HNM := Lib.hid hn
    clear hn
    go_wp2_with fail
    rw [← HWA.out]
    refine HN.out.mono ?_
    rintro e w1 ⟨rfl, hb⟩
    have bx1 := (hb.block wr.heap.size (by omega)).trans HXA.out
    have y1 := cell_of_row _ _ 1 _ _ _ bx1
    have y2 := cell_of_row _ _ 2 _ _ _ bx1
    have HB1 := Lib.hid (HBA.out.trans (hb.mono HBA.out.size))
    have HCC := Lib.hid (HC.out w1 hb)
    clear hb bx1 x0 k0 k1 k2
    cases h1 : inB x 0 3
    · have HFF := Lib.hid (HF.out (by rw [HAT.out, h1]; simp))
      go_wp2_with ((with_reducible refine (HW.out _ _ _ _).mono ?_); rintro e w' ⟨rfl, rfl⟩)
      go_ret
      exact ⟨by rw [HFF.out]; rfl, HB1.out⟩
    cases h2 : inB y 0 2
    · have HFF := Lib.hid (HF.out (by rw [HAT.out, h2]; simp))
      go_wp2_with ((with_reducible refine (HW.out _ _ _ _).mono ?_); rintro e w' ⟨rfl, rfl⟩)
      go_ret
      exact ⟨by rw [HFF.out]; rfl, HB1.out⟩
    have HAT2 := Lib.hid (show ctB sig i = !anyR i (fun k => decide ((ctA sig k).1 = s)) from by rw [HAT.out, HNM.out, h1, h2]; rfl)
    clear HAT
    cases ha : anyR i (fun k => decide ((ctA sig k).1 = s))
    · have HTT := Lib.hid (HN2.out (by rw [HAT2.out, ha]; rfl))
      rw [ha] at HCC
      clear ha
      go_wp2_with (first | ((with_reducible refine (HW.out _ _ _ _).mono ?_); rintro e w' ⟨rfl, rfl⟩) | (refine HCC.out.mono ?_; rintro e w2 ⟨rfl, hb2⟩))
      have HB2 := Lib.hid (HB1.out.trans (hb2.mono HB1.out.size))
      clear hb2
      go_roundw
      case rel => exact ⟨i + 1, by omega, by go_num, HTT.out, HB2.out⟩
      case measure => simp [intOf]; omega
    have HFF := Lib.hid (HF.out (by rw [HAT2.out, ha]; rfl))
    rw [ha] at HCC
    clear ha
    go_wp2_with (first | ((with_reducible refine (HW.out _ _ _ _).mono ?_); rintro e w' ⟨rfl, rfl⟩) | (refine HCC.out.mono ?_; rintro e w2 ⟨rfl, hb2⟩))
    have HB2 := Lib.hid (HB1.out.trans (hb2.mono HB1.out.size))
    clear hb2
    go_ret
    exact ⟨by rw [HFF.out]; rfl, HB2.out⟩
  obtain rfl : i = sig.length := by omega
  have HE := Lib.hid (show sigB sig = true from by unfold sigB; rw [allR_true HALL.out, HIN.out]; rfl)
  clear hbel
  go_wp2_with fail
  go_ret
  exact ⟨by rw [HE.out]; rfl, HBE.out⟩

theorem cellsG {w : World} {g : Nat} {cs : List Value} {t : TypeId} {fr : Nat × Nat} (h : w.heap[g]? = some (.cells cs.toArray t fr)) : Cells w (some ⟨g, 0, none⟩) cs := fun j u hj => by
  refine ⟨g, 0, rfl, ?_⟩
  rw [Nat.zero_add, cell_of_row _ _ _ _ _ _ h]
  simpa using hj

theorem ofG_any (p : Nat) (A : Option Addr) (bs : List Int) (c K : Nat) (b0 : Nat) (d : Nat) (xs : List ByteArray) (w : World) (h : Cur w p A bs c K) (hK : K ≤ 100000000000000) (hx : 1 ≤ xs.length) (hx2 : xs.length ≤ 1000000000) (hB : Cells w (some ⟨b0, 0, none⟩) (strs xs)) (hBp : b0 ≠ p) :
    Calls Tryz.prog 113 #[.pointer (some ⟨p, 0, none⟩), .slice (some ⟨b0, 0, none⟩) xs.length d] w fun e w' => ∃ x, e = .returned (.string x) ∧ x ∈ xs ∧ Cur w' p A bs c (K + 2) ∧ Kept (fun q => q = p) w w' := by
  have H := Lib.hid (pick_any p A bs c K xs.length w h hK (by omega))
  have HB := Lib.hid hB
  clear h hB
  go_enter Tryz.func113, Tryz.ntmps113
  go_wp2_with fail
  (with_reducible refine H.out.mono ?_)
  rintro e w1 ⟨x, rfl, hx0, hx1, hC1, hK1⟩
  obtain ⟨j, rfl⟩ := Int.eq_ofNat_of_zero_le hx0
  have hj : j < xs.length := by have := hx1 (by omega); omega
  obtain ⟨b, o, eB, hc⟩ := HB.out j (.string (xs.getD j default)) (getElem?_strs xs j hj)
  cases eB
  have hcj := (World.cell?_of_block (a := ⟨b0, 0 + j, none⟩) (hK1.block b0 (lt_of_cell hc) hBp)).trans hc
  have HM := Lib.hid (show xs.getD j default ∈ xs from by simp [List.getD, hj])
  have HC1 := Lib.hid hC1
  have HK1 := Lib.hid hK1
  have q1 : (j : Int) < (xs.length : Int) := by omega
  rw [Nat.zero_add] at hcj
  clear hC1 hK1 hx1 hc
  generalize xs.getD j default = y at *
  go_wp2_with fail
  go_ret
  exact ⟨_, rfl, HM.out, HC1.out, HK1.out⟩

/-- A row of controls of one's own reads as that list. -/
theorem ct_rsl {w : World} {B : Nat} {e : TypeId} {v : Value} {l : List Ct} (h : w.ownsRow B e 3 v l.length (l.flatMap encCt)) (hn : l.length ≤ 1000) : RSl RCt 3 w v l := by
  obtain ⟨A, c, rfl, h⟩ := owns_form h
  refine ⟨A, c, l.map encCt, rfl, by unfold maxLen; omega, by simp, fun cs hc => ?_, ?_, fun i cs x h1 h2 => ?_⟩
  · obtain ⟨x, _, rfl⟩ := List.mem_map.1 hc
    rfl
  · have e : (l.map encCt).flatten = l.flatMap encCt := by rw [List.flatMap_def]
    rw [e]
    exact Cells.of_owns h
  rw [List.getElem?_map, h2] at h1
  simp at h1
  exact h1.symm
theorem owns_capOk {w : World} {B : Nat} {e : TypeId} {s n : Nat} {v : Value} {xs : List Value} (h : w.ownsRow B e s v n xs) : CapOk v := fun A m c hv => by
  rcases h.2 with ⟨rfl, _⟩ | ⟨g, cap, cur, rfl, _, _, h3, _⟩
  · cases hv; omega
  cases hv; exact h3

end Go.Proofs.YtijkdpdmclkmlaaGreatDoor
