/- slices.IndexFunc and slices.ContainsFunc at numbers, wires and controls: library walked. Signatures: the program's test walked. -/
import Derived.Test.YtijkdpdmclkmlaaGreatDoorProg
import Derived.Test.YtijkdpdmclkmlaaGreatDoorJ5
import Derived.Test.YtijkdpdmclkmlaaGreatDoorJ0
set_option linter.unusedSimpArgs false
set_option linter.unusedVariables false
set_option maxRecDepth 100000
set_option maxHeartbeats 16000000
namespace Go.Proofs.YtijkdpdmclkmlaaGreatDoor
open Go.RowKit
theorem indexFuncGI_any (A : Option Addr) (c : Nat) (l : List Int) (F : FuncId) (cap : Array Value) (p : Nat → Bool) (w : World) (hn : l.length ≤ 16777216) (hv : Cells w A (ints l))
    (hF : ∀ (args : Array Value) (w : World), (callFunc F args).run Tryz.prog w = .ok (.enter F args) w)
    (hcall : ∀ (k : Nat) (x : Int) (W : World), l[k]? = some x → Below w.heap.size w W → Calls Tryz.prog F (#[.int .i64 x] ++ cap) W fun e W' => e = .returned (.bool (p k)) ∧ Below W.heap.size W W') :
    Calls Tryz.prog 202 #[.slice A l.length c, .func (.func F) #[] cap] w fun e w' => e = .returned (.int .i64 (idxR l.length p)) ∧ Below w.heap.size w w' := by
  have HC := Lib.hid hcall
  have HV := Lib.hid (show ∀ W, Below w.heap.size w W → Cells W A (ints l) from fun W hb => hv.below hb)
  skip
  clear hcall hv
  go_enter Tryz.func202, Tryz.ntmps202
  go_wp2_with fail
  go_loopw [8] (fun i wr => ∃ k : Nat, k ≤ l.length ∧ i = .int .i64 k ∧ (∀ j, j < k → p j = false) ∧ Below w.heap.size w wr)
    (fun i _ => l.length - (intOf i).toNat)
  case atStart => exact ⟨0, Nat.zero_le _, rfl, fun j hj => by omega, Below.refl _ _⟩
  obtain ⟨k, hk, rfl, hall, hbel⟩ := hrel
  have HALL := Lib.hid hall
  clear hall
  by_cases hlt : k < l.length
  · obtain ⟨b, o, ev, kk⟩ := (HV.out wr hbel).int hlt
    have k0 := kk k hlt
    clear kk
    subst ev
    have hx0 : l[k]? = some (l.getD k 0) := by simp [List.getD, hlt]
    have H := Lib.hid (HC.out k _ wr hx0 hbel)
    clear hx0
    obtain ⟨x, hx⟩ : ∃ x, x = l.getD k 0 := ⟨_, rfl⟩
    rw [← hx] at k0 H
    clear hx
    have HB := Lib.hid hbel
    clear hbel
    cases hp : p k
    · have HN := Lib.hid (none_next HALL.out hp)
      rw [hp] at H
      clear hp
      go_wp2_with ((with_reducible refine H.out.mono ?_); rintro e w1 ⟨rfl, hb1⟩)
      go_roundw
      case rel => exact ⟨k + 1, by omega, by go_num, HN.out, HB.out.trans (hb1.mono HB.out.size)⟩
      case measure => simp [intOf]; omega
    have HE := Lib.hid (idxR_some hlt HALL.out hp)
    rw [hp] at H
    clear hp
    go_wp2_with ((with_reducible refine H.out.mono ?_); rintro e w1 ⟨rfl, hb1⟩)
    go_ret
    exact ⟨by rw [HE.out]; rfl, HB.out.trans (hb1.mono HB.out.size)⟩
  obtain rfl : k = l.length := by omega
  have HE := Lib.hid (idxR_none HALL.out)
  go_wp2
  go_ret
  exact ⟨by rw [HE.out]; rfl, hbel⟩

theorem containsFuncGI_any (A : Option Addr) (c : Nat) (l : List Int) (F : FuncId) (cap : Array Value) (p : Nat → Bool) (w : World) (hn : l.length ≤ 16777216) (hv : Cells w A (ints l))
    (hF : ∀ (args : Array Value) (w : World), (callFunc F args).run Tryz.prog w = .ok (.enter F args) w)
    (hcall : ∀ (k : Nat) (x : Int) (W : World), l[k]? = some x → Below w.heap.size w W → Calls Tryz.prog F (#[.int .i64 x] ++ cap) W fun e W' => e = .returned (.bool (p k)) ∧ Below W.heap.size W W') :
    Calls Tryz.prog 127 #[.slice A l.length c, .func (.func F) #[] cap] w fun e w' => e = .returned (.bool (anyR l.length p)) ∧ Below w.heap.size w w' := by
  have H := Lib.hid (indexFuncGI_any A c l F cap p w hn hv hF hcall)
  have HI := Lib.hid (idxR_any l.length p)
  skip
  clear hF hcall hv
  go_enter Tryz.func127, Tryz.ntmps127
  go_wp2_with ((with_reducible refine H.out.mono ?_); rintro e w1 ⟨rfl, hb1⟩)
  go_ret
  exact ⟨by rw [← HI.out]; rfl, hb1⟩

theorem indexFuncGW_any (v : Value) (l : List Wi) (F : FuncId) (cap : Array Value) (p : Nat → Bool) (w : World) (hn : l.length ≤ 16777216) (hv : RSl RWi 2 w v l)
    (hF : ∀ (args : Array Value) (w : World), (callFunc F args).run Tryz.prog w = .ok (.enter F args) w)
    (hcall : ∀ (k : Nat) (x : Wi) (W : World), l[k]? = some x → Below w.heap.size w W → Calls Tryz.prog F (#[.agg #[.string x.1, .int .i64 x.2]] ++ cap) W fun e W' => e = .returned (.bool (p k)) ∧ Below W.heap.size W W') :
    Calls Tryz.prog 203 #[v, .func (.func F) #[] cap] w fun e w' => e = .returned (.int .i64 (idxR l.length p)) ∧ Below w.heap.size w w' := by
  have HC := Lib.hid hcall
  have HV := Lib.hid (show ∀ W, Below w.heap.size w W → RSl RWi 2 W v l from fun W hb => hv.below RWi_keep hb)
  obtain ⟨A, c, rfl, _⟩ := hv.form
  clear hcall hv
  go_enter Tryz.func203, Tryz.ntmps203
  go_wp2_with fail
  go_loopw [8] (fun i wr => ∃ k : Nat, k ≤ l.length ∧ i = .int .i64 k ∧ (∀ j, j < k → p j = false) ∧ Below w.heap.size w wr)
    (fun i _ => l.length - (intOf i).toNat)
  case atStart => exact ⟨0, Nat.zero_le _, rfl, fun j hj => by omega, Below.refl _ _⟩
  obtain ⟨k, hk, rfl, hall, hbel⟩ := hrel
  have HALL := Lib.hid hall
  clear hall
  by_cases hlt : k < l.length
  · obtain ⟨b, o, c', ev, k0, k1⟩ := wi_at (HV.out wr hbel) hlt
    cases ev
    have H := Lib.hid (HC.out k _ wr (List.getElem?_eq_getElem hlt) hbel)
    generalize l[k] = x at *
    have HB := Lib.hid hbel
    clear hbel
    cases hp : p k
    · have HN := Lib.hid (none_next HALL.out hp)
      rw [hp] at H
      clear hp
      go_wp2_with ((with_reducible refine H.out.mono ?_); rintro e w1 ⟨rfl, hb1⟩)
      go_roundw
      case rel => exact ⟨k + 1, by omega, by go_num, HN.out, HB.out.trans (hb1.mono HB.out.size)⟩
      case measure => simp [intOf]; omega
    have HE := Lib.hid (idxR_some hlt HALL.out hp)
    rw [hp] at H
    clear hp
    go_wp2_with ((with_reducible refine H.out.mono ?_); rintro e w1 ⟨rfl, hb1⟩)
    go_ret
    exact ⟨by rw [HE.out]; rfl, HB.out.trans (hb1.mono HB.out.size)⟩
  obtain rfl : k = l.length := by omega
  have HE := Lib.hid (idxR_none HALL.out)
  go_wp2
  go_ret
  exact ⟨by rw [HE.out]; rfl, hbel⟩

theorem containsFuncGW_any (v : Value) (l : List Wi) (F : FuncId) (cap : Array Value) (p : Nat → Bool) (w : World) (hn : l.length ≤ 16777216) (hv : RSl RWi 2 w v l)
    (hF : ∀ (args : Array Value) (w : World), (callFunc F args).run Tryz.prog w = .ok (.enter F args) w)
    (hcall : ∀ (k : Nat) (x : Wi) (W : World), l[k]? = some x → Below w.heap.size w W → Calls Tryz.prog F (#[.agg #[.string x.1, .int .i64 x.2]] ++ cap) W fun e W' => e = .returned (.bool (p k)) ∧ Below W.heap.size W W') :
    Calls Tryz.prog 129 #[v, .func (.func F) #[] cap] w fun e w' => e = .returned (.bool (anyR l.length p)) ∧ Below w.heap.size w w' := by
  have H := Lib.hid (indexFuncGW_any v l F cap p w hn hv hF hcall)
  have HI := Lib.hid (idxR_any l.length p)
  obtain ⟨A, c, rfl, _⟩ := hv.form
  clear hF hcall hv
  go_enter Tryz.func129, Tryz.ntmps129
  go_wp2_with ((with_reducible refine H.out.mono ?_); rintro e w1 ⟨rfl, hb1⟩)
  go_ret
  exact ⟨by rw [← HI.out]; rfl, hb1⟩

theorem indexFuncGC_any (v : Value) (l : List Ct) (F : FuncId) (cap : Array Value) (p : Nat → Bool) (w : World) (hn : l.length ≤ 16777216) (hv : RSl RCt 3 w v l)
    (hF : ∀ (args : Array Value) (w : World), (callFunc F args).run Tryz.prog w = .ok (.enter F args) w)
    (hcall : ∀ (k : Nat) (x : Ct) (W : World), l[k]? = some x → Below w.heap.size w W → Calls Tryz.prog F (#[.agg #[.string x.1, .int .i64 x.2.1, .int .i64 x.2.2]] ++ cap) W fun e W' => e = .returned (.bool (p k)) ∧ Below W.heap.size W W') :
    Calls Tryz.prog 252 #[v, .func (.func F) #[] cap] w fun e w' => e = .returned (.int .i64 (idxR l.length p)) ∧ Below w.heap.size w w' := by
  have HC := Lib.hid hcall
  have HV := Lib.hid (show ∀ W, Below w.heap.size w W → RSl RCt 3 W v l from fun W hb => hv.below RCt_keep hb)
  obtain ⟨A, c, rfl, _⟩ := hv.form
  clear hcall hv
  go_enter Tryz.func252, Tryz.ntmps252
  go_wp2_with fail
  go_loopw [8] (fun i wr => ∃ k : Nat, k ≤ l.length ∧ i = .int .i64 k ∧ (∀ j, j < k → p j = false) ∧ Below w.heap.size w wr)
    (fun i _ => l.length - (intOf i).toNat)
  case atStart => exact ⟨0, Nat.zero_le _, rfl, fun j hj => by omega, Below.refl _ _⟩
  obtain ⟨k, hk, rfl, hall, hbel⟩ := hrel
  have HALL := Lib.hid hall
  clear hall
  by_cases hlt : k < l.length
  · obtain ⟨b, o, c', ev, k0, k1, k2⟩ := ct_at (HV.out wr hbel) hlt
    cases ev
    have H := Lib.hid (HC.out k _ wr (List.getElem?_eq_getElem hlt) hbel)
    generalize l[k] = x at *
    have HB := Lib.hid hbel
    clear hbel
    cases hp : p k
    · have HN := Lib.hid (none_next HALL.out hp)
      rw [hp] at H
      clear hp
      go_wp2_with ((with_reducible refine H.out.mono ?_); rintro e w1 ⟨rfl, hb1⟩)
      go_roundw
      case rel => exact ⟨k + 1, by omega, by go_num, HN.out, HB.out.trans (hb1.mono HB.out.size)⟩
      case measure => simp [intOf]; omega
    have HE := Lib.hid (idxR_some hlt HALL.out hp)
    rw [hp] at H
    clear hp
    go_wp2_with ((with_reducible refine H.out.mono ?_); rintro e w1 ⟨rfl, hb1⟩)
    go_ret
    exact ⟨by rw [HE.out]; rfl, HB.out.trans (hb1.mono HB.out.size)⟩
  obtain rfl : k = l.length := by omega
  have HE := Lib.hid (idxR_none HALL.out)
  go_wp2
  go_ret
  exact ⟨by rw [HE.out]; rfl, hbel⟩

theorem containsFuncGC_any (v : Value) (l : List Ct) (F : FuncId) (cap : Array Value) (p : Nat → Bool) (w : World) (hn : l.length ≤ 16777216) (hv : RSl RCt 3 w v l)
    (hF : ∀ (args : Array Value) (w : World), (callFunc F args).run Tryz.prog w = .ok (.enter F args) w)
    (hcall : ∀ (k : Nat) (x : Ct) (W : World), l[k]? = some x → Below w.heap.size w W → Calls Tryz.prog F (#[.agg #[.string x.1, .int .i64 x.2.1, .int .i64 x.2.2]] ++ cap) W fun e W' => e = .returned (.bool (p k)) ∧ Below W.heap.size W W') :
    Calls Tryz.prog 215 #[v, .func (.func F) #[] cap] w fun e w' => e = .returned (.bool (anyR l.length p)) ∧ Below w.heap.size w w' := by
  have H := Lib.hid (indexFuncGC_any v l F cap p w hn hv hF hcall)
  have HI := Lib.hid (idxR_any l.length p)
  obtain ⟨A, c, rfl, _⟩ := hv.form
  clear hF hcall hv
  go_enter Tryz.func215, Tryz.ntmps215
  go_wp2_with ((with_reducible refine H.out.mono ?_); rintro e w1 ⟨rfl, hb1⟩)
  go_ret
  exact ⟨by rw [← HI.out]; rfl, hb1⟩

/-- A slice's room is no less than its length. -/
def CapOk (v : Value) : Prop := ∀ A n c, v = .slice A n c → n ≤ c

theorem RSl.take {α : Type} {R : World → List Value → α → Prop} {sz : Nat} {w : World} {A : Option Addr} {c : Nat} {l : List α} (h : RSl R sz w (.slice A l.length c) l) {k : Nat} (hk : k ≤ l.length) : RSl R sz w (.slice A k c) (l.take k) := by
  obtain ⟨A', c', css, e, hm, hl, hsz, hc, hr⟩ := h
  cases e
  have hlen : (l.take k).length = k := by rw [List.length_take]; omega
  refine ⟨A, c, css.take k, by rw [hlen], by rw [hlen]; omega, by rw [hlen, List.length_take]; omega, fun cs hx => hsz cs (List.mem_of_mem_take hx), fun j u hj => ?_, fun i cs x h1 h2 => ?_⟩
  · refine hc j u ?_
    have e : css.flatten = (css.take k).flatten ++ (css.drop k).flatten := by rw [← List.flatten_append, List.take_append_drop]
    rw [e, List.getElem?_append_left (List.getElem?_eq_some_iff.1 hj).1]
    exact hj
  rw [List.getElem?_take] at h1 h2
  split at h1
  · rename_i hi
    rw [if_pos hi] at h2
    exact hr i cs x h1 h2
  cases h1

theorem isSig1_any (d : Ct) (pc : Nat) (s : ByteArray) (w : World) (h : w.cell? ⟨pc, 0, none⟩ = some (.string s)) :
    Calls Tryz.prog 216 #[.agg #[.string d.1, .int .i64 d.2.1, .int .i64 d.2.2], .pointer (some ⟨pc, 0, none⟩)] w fun e w' => e = .returned (.bool (decide (d.1 = s))) ∧ Below w.heap.size w w' := by
  have hal : Below w.heap.size w (w.alloc (.cells #[.string d.1, .int .i64 d.2.1, .int .i64 d.2.2] 44)) := (Below.refl _ _).alloc (Nat.le_refl _) _
  have HB := Lib.hid hal
  have h := cell_below hal h (lt_of_cell h)
  clear hal
  by_cases he : d.1 = s
  · rw [decide_eq_true he]
    have hee := str_eq s
    subst he
    go_enter Tryz.func216, Tryz.ntmps216
    go_wp2_with fail
    go_ret
    exact ⟨rfl, HB.out⟩
  rw [decide_eq_false he]
  have hee := str_ne he
  clear he
  go_enter Tryz.func216, Tryz.ntmps216
  go_wp2_with fail
  go_ret
  exact ⟨rfl, HB.out⟩

theorem isSignature_any (v : Value) (sig : List Ct) (w : World) (hs : SmallS sig) (hcap : CapOk v) (hv : RSl RCt 3 w v sig) :
    Calls Tryz.prog 140 #[v] w fun e w' => e = .returned (.bool (sigB sig)) ∧ Below w.heap.size w w' := by
  have HV := Lib.hid (show ∀ W, Below w.heap.size w W → RSl RCt 3 W v sig from fun W hb => hv.below RCt_keep hb)
  have HZ := Lib.hid (show ∀ k, k < sig.length → (ctA sig k).1.size ≤ 1000 from fun k hk => by
    rw [ctA_get hk]
    exact hs.name _ (List.getElem_mem hk))
  have hl := hs.len
  obtain ⟨A, c, rfl, _⟩ := hv.form
  have hc := hcap A sig.length c rfl
  have HW := Lib.hid within_any
  clear hv hs hcap
  cases hin : inB sig.length 1 6
  · have HE := Lib.hid (show sigB sig = false from by unfold sigB; rw [hin]; rfl)
    go_enter Tryz.func140, Tryz.ntmps140
    go_wp2_with ((with_reducible refine (HW.out _ _ _ _).mono ?_); rintro e w' ⟨rfl, rfl⟩)
    go_ret
    exact ⟨by rw [HE.out]; rfl, Below.refl _ _⟩
  have HIN := Lib.hid hin
  go_enter Tryz.func140, Tryz.ntmps140
  go_wp2_with ((with_reducible refine (HW.out _ _ _ _).mono ?_); rintro e w' ⟨rfl, rfl⟩)
  clear hin
  go_loopw [11] (fun i wr => ∃ k : Nat, k ≤ sig.length ∧ i = .int .i64 k ∧ (∀ j, j < k → ctB sig j = true) ∧ Below w.heap.size w wr)
    (fun i _ => sig.length - (intOf i).toNat)
  case atStart => exact ⟨0, Nat.zero_le _, rfl, fun j hj => by omega, Below.refl _ _⟩
  obtain ⟨i, hi, rfl, hall, hbel⟩ := hrel
  have HALL := Lib.hid hall
  have HBE := Lib.hid hbel
  clear hall
  by_cases hlt : i < sig.length
  · obtain ⟨b, o, c', ev, k0, k1, k2⟩ := ct_at (HV.out wr hbel) hlt
    cases ev
    have HAT := Lib.hid (show ctB sig i = (nameB (ctA sig i).1 && inB (ctA sig i).2.1 0 3 && inB (ctA sig i).2.2 0 2 && !anyR i fun k => decide ((ctA sig k).1 = (ctA sig i).1)) from rfl)
    have HF := Lib.hid (show ctB sig i = false → sigB sig = false from fun h => by unfold sigB; rw [allR_false hlt h, Bool.and_false])
    have HN2 := Lib.hid (show ctB sig i = true → ∀ j, j < i + 1 → ctB sig j = true from fun h => all_next HALL.out h)
    have hz := HZ.out i hlt
    rw [← ctA_get hlt] at k0 k1 k2
    obtain ⟨s, hS⟩ : ∃ s, s = (ctA sig i).1 := ⟨_, rfl⟩
    obtain ⟨x, hX⟩ : ∃ x, x = (ctA sig i).2.1 := ⟨_, rfl⟩
    obtain ⟨y, hY⟩ : ∃ y, y = (ctA sig i).2.2 := ⟨_, rfl⟩
    rw [← hX, ← hY] at HAT
    rw [← hS] at hz k0 HAT
    rw [← hX] at k1
    rw [← hY] at k2
    obtain ⟨wa, hwa, hba, hsa, bxa⟩ := laid1 wr (.cells #[.string s, .int .i64 x, .int .i64 y] 44)
    have HBA := Lib.hid (HBE.out.trans (hba.mono HBE.out.size))
    have HXA := Lib.hid bxa
    have HWA := Lib.hid hwa
    have HN := Lib.hid (isName_any s wa (by unfold maxLen; omega))
    have x0 := cell_of_row _ _ 0 _ _ _ bxa
    have HC := Lib.hid (fun W (hb : Below wa.heap.size wa W) => containsFuncGC_any (.slice (some ⟨b, o, none⟩) i c) (sig.take i) 216 #[.pointer (some ⟨wr.heap.size, 0, none⟩)] (fun k => decide ((ctA sig k).1 = s)) W (by rw [List.length_take]; omega)
      ((HV.out W (HBA.out.trans (hb.mono HBA.out.size))).take (by omega)) (enter_of Tryz.func216 (by kernel_rfl) (by kernel_rfl)) (fun k z W' hk hb' => by
        have hki : k < i := by have := (List.getElem?_eq_some_iff.1 hk).1; rw [List.length_take] at this; omega
        have hzk : z = ctA sig k := by
          rw [List.getElem?_take, if_pos hki, List.getElem?_eq_getElem (by omega)] at hk
          injection hk with hk
          rw [← hk, ctA_get (by omega)]
        subst hzk
        exact isSig1_any (ctA sig k) wr.heap.size s W' (cell_of_row _ _ 0 _ _ _ ((hb'.block _ (by have := hb.size; omega)).trans ((hb.block _ (by omega)).trans bxa)))))
    have hlt' : (sig.take i).length = i := by rw [List.length_take]; omega
    rw [hlt'] at HC
    clear hbel hS hX hY hba hwa
    cases hn : nameB s
    · have HFF := Lib.hid (HF.out (by rw [HAT.out, hn]; rfl))
      rw [hn] at HN
      clear hn
      go_wp2_with fail
      rw [← HWA.out]
      refine HN.out.mono ?_
      rintro e w1 ⟨rfl, hb⟩
      go_wp2_with fail
      go_ret
      exact ⟨by rw [HFF.out]; rfl, HBA.out.trans (hb.mono HBA.out.size)⟩
    rw [hn] at HN
    have HNM := Lib.hid hn
    clear hn
    go_wp2_with fail
    rw [← HWA.out]
    refine HN.out.mono ?_
    rintro e w1 ⟨rfl, hb⟩
    have bx1 := (hb.block wr.heap.size (by omega)).trans HXA.out
    have y1 := cell_of_row _ _ 1 _ _ _ bx1
    have y2 := cell_of_row _ _ 2 _ _ _ bx1
    have HB1 := Lib.hid (HBA.out.trans (hb.mono HBA.out.size))
    have HCC := Lib.hid (HC.out w1 hb)
    clear hb bx1 x0 k0 k1 k2
    cases h1 : inB x 0 3
    · have HFF := Lib.hid (HF.out (by rw [HAT.out, h1]; simp))
      go_wp2_with ((with_reducible refine (HW.out _ _ _ _).mono ?_); rintro e w' ⟨rfl, rfl⟩)
      go_ret
      exact ⟨by rw [HFF.out]; rfl, HB1.out⟩
    cases h2 : inB y 0 2
    · have HFF := Lib.hid (HF.out (by rw [HAT.out, h2]; simp))
      go_wp2_with ((with_reducible refine (HW.out _ _ _ _).mono ?_); rintro e w' ⟨rfl, rfl⟩)
      go_ret
      exact ⟨by rw [HFF.out]; rfl, HB1.out⟩
    have HAT2 := Lib.hid (show ctB sig i = !anyR i (fun k => decide ((ctA sig k).1 = s)) from by rw [HAT.out, HNM.out, h1, h2]; rfl)
    clear HAT
    cases ha : anyR i (fun k => decide ((ctA sig k).1 = s))
    · have HTT := Lib.hid (HN2.out (by rw [HAT2.out, ha]; rfl))
      rw [ha] at HCC
      clear ha
      go_wp2_with (first | ((with_reducible refine (HW.out _ _ _ _).mono ?_); rintro e w' ⟨rfl, rfl⟩) | (refine HCC.out.mono ?_; rintro e w2 ⟨rfl, hb2⟩))
      have HB2 := Lib.hid (HB1.out.trans (hb2.mono HB1.out.size))
      clear hb2
      go_roundw
      case rel => exact ⟨i + 1, by omega, by go_num, HTT.out, HB2.out⟩
      case measure => simp [intOf]; omega
    have HFF := Lib.hid (HF.out (by rw [HAT2.out, ha]; rfl))
    rw [ha] at HCC
    clear ha
    go_wp2_with (first | ((with_reducible refine (HW.out _ _ _ _).mono ?_); rintro e w' ⟨rfl, rfl⟩) | (refine HCC.out.mono ?_; rintro e w2 ⟨rfl, hb2⟩))
    have HB2 := Lib.hid (HB1.out.trans (hb2.mono HB1.out.size))
    clear hb2
    go_ret
    exact ⟨by rw [HFF.out]; rfl, HB2.out⟩
  obtain rfl : i = sig.length := by omega
  have HE := Lib.hid (show sigB sig = true from by unfold sigB; rw [allR_true HALL.out, HIN.out]; rfl)
  clear hbel
  go_wp2_with fail
  go_ret
  exact ⟨by rw [HE.out]; rfl, HBE.out⟩

end Go.Proofs.YtijkdpdmclkmlaaGreatDoor
