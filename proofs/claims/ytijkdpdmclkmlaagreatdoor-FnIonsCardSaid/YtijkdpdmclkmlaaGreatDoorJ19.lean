/- The draw of names. -/
import Derived.Test.YtijkdpdmclkmlaaGreatDoorProg
import Derived.Test.YtijkdpdmclkmlaaGreatDoorJ0
import Derived.Test.YtijkdpdmclkmlaaGreatDoorJ17
import Derived.Test.YtijkdpdmclkmlaaGreatDoorJ13
import Derived.Test.YtijkdpdmclkmlaaGreatDoorJ4
import Derived.Test.YtijkdpdmclkmlaaGreatDoorJ18
import Derived.Deep.CutBlock
import Derived.BigQuiet
set_option linter.unusedSimpArgs false
set_option linter.unusedVariables false
set_option maxRecDepth 100000
set_option maxHeartbeats 16000000
namespace Go.Proofs.YtijkdpdmclkmlaaGreatDoor
open Go.RowKit
/-- A list of strings that has been drawn: it reads as l while nothing at B or above turns. -/
structure DS3 (B : Nat) (w' : World) (v : Value) (l : List ByteArray) : Prop where
  ex : ∃ P d, v = .slice P l.length d ∧ ∀ W, Kept (fun q => q < B) w' W → Cells W P (strs l)
  len : l.length ≤ 40
  sz : ∀ s ∈ l, s.size ≤ 100
theorem ds3_own {B : Nat} {e : TypeId} {w' : World} {v : Value} {l : List ByteArray} (h : w'.ownsRow B e 1 v l.length (strs l)) (h1 : l.length ≤ 40) (h2 : ∀ s ∈ l, s.size ≤ 100) : DS3 B w' v l := by
  obtain ⟨P, d, rfl, h⟩ := owns_form h
  exact { ex := ⟨P, d, rfl, fun W hk => Cells.of_owns (ownsK h hk (fun g hg e => by have := (h.lt g hg).1; omega))⟩, len := h1, sz := h2 }
def all5 : List ByteArray := [⟨#[97]⟩, ⟨#[98]⟩, ⟨#[120]⟩, ⟨#[121]⟩, ⟨#[122, 122]⟩]
def sufS (k : Nat) : ByteArray := (⟨#[122, 122]⟩ ++ (⟨#[97, 98, 99, 100, 101, 102, 103, 104, 105, 106, 107, 108, 109, 110, 111, 112, 113]⟩ : ByteArray).extract k (k + 1))
theorem sufS_size (k : Nat) : (sufS k).size ≤ 100 := by
  unfold sufS
  have h1 : (⟨#[97, 98, 99, 100, 101, 102, 103, 104, 105, 106, 107, 108, 109, 110, 111, 112, 113]⟩ : ByteArray).size = 17 := rfl
  have h2 : (⟨#[122, 122]⟩ : ByteArray).size = 2 := rfl
  rw [ByteArray.size_append, ByteArray.size_extract, h1, h2]
  omega
theorem all5_sz : ∀ s ∈ all5, s.size ≤ 100 := by decide

theorem names3_any (p : Nat) (A : Option Addr) (bs : List Int) (c K : Nat) (w : World) (hC : Cur w p A bs c K) (hK : K ≤ 10000000000000) :
    Calls Tryz.prog 89 #[.pointer (some ⟨p, 0, none⟩)] w fun e w' => ∃ v l, e = .returned v ∧ DS3 w.heap.size w' v l ∧ Cur w' p A bs c (K + 100) ∧ Kept (fun q => q = p) w w' := by
  have hpw := hC.lt
  obtain ⟨w0, hw0, hb0, hs0, -⟩ := laid2 w (.cells #[] 9) (.cells #[.string ⟨#[97]⟩, .string ⟨#[98]⟩, .string ⟨#[120]⟩, .string ⟨#[121]⟩, .string ⟨#[122, 122]⟩] 9)
  have ho0 : w0.ownsRow w.heap.size 9 1 (.slice (some ⟨w.heap.size, 0, none⟩) 0 0) 0 [] := by rw [hw0]; exact (made_rowG w 9).alloc _
  have ha0 : w0.ownsRow (w.heap.size + 1) 9 1 (.slice (some ⟨w.heap.size + 1, 0, none⟩) 5 5) 5 (strs all5) := by
    have h := ownsNew (w.alloc (.cells #[] 9)) (strs all5) 9 1 5 rfl (by decide)
    rw [World.size_alloc] at h
    rw [hw0]; exact h
  have HA0 := Lib.hid ha0
  have HO0 := Lib.hid ho0
  have HC0 := Lib.hid (hC.below hb0)
  have HB0 := Lib.hid hb0
  have HW0 := Lib.hid hw0
  clear hC hb0 ho0 ha0 hw0
  go_enter Tryz.func89, Tryz.ntmps89
  go_wp2_with fail
  rw [← HW0.out]
  go_loopw [3, 5] (fun v i wr => ∃ (k : Nat) (l : List ByteArray) (K1 : Nat), k ≤ 5 ∧ i = .int .i64 k ∧ K1 ≤ K + 2 * k ∧ wr.ownsRow w.heap.size 9 1 v l.length (strs l) ∧ v.ownBlock ≠ some (w.heap.size + 1) ∧ wr.ownsRow (w.heap.size + 1) 9 1 (.slice (some ⟨w.heap.size + 1, 0, none⟩) 5 5) 5 (strs all5) ∧ l.length ≤ k ∧ (∀ s ∈ l, s.size ≤ 100) ∧ Cur wr p A bs c K1 ∧ Kept (fun q => q = p) w wr)
    (fun v i _ => 5 - (intOf i).toNat)
  case atStart => exact ⟨0, [], K, by omega, rfl, by omega, HO0.out, by simp [Value.ownBlock], HA0.out, Nat.zero_le _, fun s hs => by simp at hs, HC0.out, Kept.of_below HB0.out _⟩
  obtain ⟨k, l, K1, hk, rfl, hK1, hown, hne, hall, hll, hsz, hcur, hkept⟩ := hrel
  obtain ⟨AU, cU, rfl, hown⟩ := owns_form hown
  have HO := Lib.hid hown
  have HNE := Lib.hid hne
  have HALL := Lib.hid hall
  have HSZ := Lib.hid hsz
  have HCU := Lib.hid hcur
  have HKE := Lib.hid hkept
  have hws := hkept.size
  have hws2 : w.heap.size + 1 < wr.heap.size := (hall.lt _ rfl).2
  clear hown hne hall hsz hcur hkept
  by_cases hlt : k < 5
  · have H1 := Lib.hid (one_any p A bs c K1 3 wr HCU.out (by omega) (by omega))
    go_wp2_with fail
    (with_reducible refine H1.out.mono ?_)
    rintro e w1 ⟨b, rfl, hc1, hk1⟩
    have HC1 := Lib.hid hc1
    have HK1 := Lib.hid (HKE.out.trans hk1)
    have ho1 := ownsK HO.out hk1 (fun g hg e => by have := (HO.out.lt g hg).1; omega)
    have ha1 := ownsK HALL.out hk1 (fun g hg e => by have := (HALL.out.lt g hg).1; omega)
    have HO1 := Lib.hid ho1
    have HA1 := Lib.hid ha1
    have hw1 := hk1.size
    clear hc1 hk1 ho1 ha1 H1
    cases b
    · go_wp2_with fail
      go_roundw
      case rel => exact ⟨k + 1, l, K1 + 2, by omega, by go_num, by omega, HO1.out, HNE.out, HA1.out, by omega, HSZ.out, HC1.out, HK1.out⟩
      case measure => simp [intOf]; omega
    obtain ⟨s, hs⟩ : ∃ s, s = all5.getD k default := ⟨_, rfl⟩
    have HSS := Lib.hid (show s.size ≤ 100 from by rw [hs]; exact all5_sz _ (by simp [List.getD, show k < all5.length from hlt]))
    have hcell := (Cells.of_owns HA1.out).str (show k < all5.length from hlt)
    obtain ⟨b', o', e', hc'⟩ := hcell
    cases e'
    have k0 := hc' k hlt
    rw [← hs, Nat.zero_add] at k0
    have v0 : (0 : Int) ≤ (k : Int) := by omega
    have v1 : (k : Int) < 5 := by omega
    have hsz1 : w.heap.size ≤ w1.heap.size := by omega
    clear hc' hs
    go_wp2_with (at_builtin; refine wpList_app el_strG rfl _ _ rfl w.heap.size _ _ _ rfl HO1.out [.string s] rfl rfl rfl (one1 rfl) (by omega) hsz1 ?_; intro v2 w2 ho hk2 hm2)
    have HO2 := Lib.hid (show w2.ownsRow w.heap.size 9 1 v2 (l ++ [s]).length (strs (l ++ [s])) from by rw [List.length_append, show strs (l ++ [s]) = strs l ++ [.string s] from by simp [strs]]; exact ho)
    have HN2 := Lib.hid (show v2.ownBlock ≠ some (w.heap.size + 1) from fun e => by
      rcases hm2 _ e with h | h
      · exact HNE.out h
      have := (HA1.out.lt _ rfl).2; omega)
    have HA2 := Lib.hid (ownsK HA1.out hk2 (fun g hg e => by cases hg; exact HNE.out e))
    have hplt : ∀ q, (Value.slice AU l.length cU).ownBlock = some q → p < q := fun q hq => by have := (HO1.out.lt q hq).1; omega
    have HC2 := Lib.hid (HC1.out.kept hk2 hplt)
    have HK2 := Lib.hid (show Kept (fun q => q = p) w w2 from ⟨hk2.os.trans HK1.out.os, hk2.tape.trans HK1.out.tape, hk2.output.trans HK1.out.output, Nat.le_trans hsz1 hk2.size, fun b hb hn => (hk2.block b (by omega) (fun e => by have := (HO1.out.lt b e).1; omega)).trans (HK1.out.block b hb hn)⟩)
    have HS2 := Lib.hid (show ∀ x ∈ l ++ [s], x.size ≤ 100 from fun x hx => by
      rcases List.mem_append.1 hx with h | h
      · exact HSZ.out x h
      simp at h; subst h; exact HSS.out)
    clear ho hk2 hm2 hplt k0
    go_wp2_with fail
    go_roundw
    case rel => exact ⟨k + 1, l ++ [s], K1 + 2, by omega, by go_num, by omega, HO2.out, HN2.out, HA2.out, by simp; omega, HS2.out, HC2.out, HK2.out⟩
    case measure => simp [intOf]; omega
  obtain rfl : k = 5 := by omega
  have H1 := Lib.hid (pick_any p A bs c K1 24 wr HCU.out (by omega) (by omega))
  go_wp2_with fail
  (with_reducible refine H1.out.mono ?_)
  rintro e w1 ⟨x, rfl, hx0, hx1, hc1, hk1⟩
  have HC1 := Lib.hid hc1
  have HK1 := Lib.hid (HKE.out.trans hk1)
  have HO1 := Lib.hid (ownsK HO.out hk1 (fun g hg e => by have := (HO.out.lt g hg).1; omega))
  have HA1 := Lib.hid (ownsK HALL.out hk1 (fun g hg e => by have := (HALL.out.lt g hg).1; omega))
  have hw1 := hk1.size
  clear hc1 hk1 H1 hx1
  by_cases h0 : x = 0
  · subst h0
    obtain ⟨w5, hw5, hb5, -⟩ := laid1 w1 (.cells #[.string ⟨#[97]⟩, .string ⟨#[]⟩, .string ⟨#[65]⟩, .string ⟨#[97, 98, 99, 100, 101]⟩, .string ⟨#[122, 122, 122]⟩] 9)
    have H5 := Lib.hid (show Calls Tryz.prog 113 #[.pointer (some ⟨p, 0, none⟩), .slice (some ⟨w1.heap.size, 0, none⟩) 5 5] w5 _ from
      ofG_any p A bs c _ w1.heap.size 5 [⟨#[97]⟩, ⟨#[]⟩, ⟨#[65]⟩, ⟨#[97, 98, 99, 100, 101]⟩, ⟨#[122, 122, 122]⟩] w5 (HC1.out.below hb5) (by omega) (by decide) (by decide) (by rw [hw5]; exact cellsG (heap_alloc_new w1 _)) (by omega))
    have HK5 := Lib.hid (HK1.out.trans (Kept.of_below hb5 _))
    have HO5 := Lib.hid (owns_below HO1.out hb5 (Nat.le_refl _))
    have hs5 := hb5.size
    have HW5 := Lib.hid hw5
    clear hb5 hw5
    go_wp2_with fail
    rw [← HW5.out]
    (with_reducible refine H5.out.mono ?_)
    rintro e w6 ⟨s, rfl, hs, hC6, hK6⟩
    have HSS := Lib.hid (show s.size ≤ 100 from by
      simp only [List.mem_cons, List.not_mem_nil, or_false] at hs
      rcases hs with rfl | rfl | rfl | rfl | rfl <;> decide)
    have HO6 := Lib.hid (ownsK HO5.out hK6 (fun g hg e => by have := (HO5.out.lt g hg).1; omega))
    have HK6 := Lib.hid (HK5.out.trans hK6)
    have HC6 := Lib.hid hC6
    have hsz6 : w.heap.size ≤ w6.heap.size := by have := hK6.size; omega
    clear hC6 hK6 hs
    go_wp2_with (at_builtin; refine wpList_app el_strG rfl _ _ rfl w.heap.size _ _ _ rfl HO6.out [.string s] rfl rfl rfl (one1 rfl) (by omega) hsz6 ?_; intro v2 w7 ho hk2 hm2)
    have HO7 := Lib.hid (show w7.ownsRow w.heap.size 9 1 v2 (l ++ [s]).length (strs (l ++ [s])) from by rw [List.length_append, show strs (l ++ [s]) = strs l ++ [.string s] from by simp [strs]]; exact ho)
    have hplt : ∀ q, (Value.slice AU l.length cU).ownBlock = some q → p < q := fun q hq => by have := (HO6.out.lt q hq).1; omega
    have HC7 := Lib.hid ((HC6.out.kept hk2 hplt).mono (K' := K + 100) (by omega))
    have HK7 := Lib.hid (show Kept (fun q => q = p) w w7 from ⟨hk2.os.trans HK6.out.os, hk2.tape.trans HK6.out.tape, hk2.output.trans HK6.out.output, Nat.le_trans hsz6 hk2.size, fun b hb hn => (hk2.block b (by omega) (fun e => by have := (HO6.out.lt b e).1; omega)).trans (HK6.out.block b hb hn)⟩)
    have HD := Lib.hid (ds3_own HO7.out (by simp; omega) (fun x hx => by
      rcases List.mem_append.1 hx with h | h
      · exact HSZ.out x h
      simp at h; subst h; exact HSS.out))
    clear ho hk2 hm2 hplt
    go_wp2_with fail
    go_ret
    exact ⟨_, _, rfl, HD.out, HC7.out, HK7.out⟩
  have e0 : (x == 0) = false := by simpa using h0
  by_cases h1 : x = 1
  · subst h1
    clear e0 h0
    go_wp2_with fail
    go_loopw [4, 6] (fun v i wr => ∃ (k : Nat) (l : List ByteArray) (K1 : Nat) (g d : Nat), k ≤ 17 ∧ i = .int .i64 k ∧ K1 ≤ K + 14 + 2 * k ∧ l.length = 5 + k ∧ v = .slice (some ⟨g, 0, none⟩) (5 + k) d ∧ wr.ownsRow (w.heap.size + 1) 9 1 (.slice (some ⟨g, 0, none⟩) (5 + k) d) (5 + k) (strs l) ∧ (∀ s ∈ l, s.size ≤ 100) ∧ Cur wr p A bs c K1 ∧ Kept (fun q => q = p) w wr)
      (fun v i _ => 17 - (intOf i).toNat)
    case atStart => exact ⟨0, all5, _, _, _, by omega, rfl, (by omega), rfl, rfl, HA1.out, all5_sz, HC1.out, HK1.out⟩
    obtain ⟨k, l2, K2, g, d, hk, rfl, hK2, hll2, rfl, hown2, hsz2, hcur2, hkept2⟩ := hrel
    have hd2 := owns_capOk hown2 _ _ _ rfl
    have H2 := Lib.hid (pick_any p A bs c K2 2 wr hcur2 (by omega) (by omega))
    have HO := Lib.hid hown2
    have HSZ2 := Lib.hid hsz2
    have HKE2 := Lib.hid hkept2
    have HLL2 := Lib.hid hll2
    have hws2 := hkept2.size
    clear hown2 hsz2 hcur2 hkept2 hll2
    go_wp2_with fail
    (with_reducible refine H2.out.mono ?_)
    rintro e w2 ⟨x, rfl, hx0, hx1, hc2, hk2⟩
    have hx2 : x = 0 ∨ x = 1 := by have := hx1 (by omega); omega
    have HC2 := Lib.hid hc2
    have HK2 := Lib.hid (HKE2.out.trans hk2)
    have HO2 := Lib.hid (ownsK HO.out hk2 (fun g hg e => by have := (HO.out.lt g hg).1; omega))
    have hw2 := hk2.size
    clear hc2 hk2 H2 hx1
    by_cases hlt : (k : Int) < 16 + x
    · have hk16 : k ≤ 16 := by omega
      have v0 : (0 : Int) ≤ (k : Int) := by omega
      have v1 : (k : Int) + 1 ≤ 17 := by omega
      have hsz2' : w.heap.size + 1 ≤ w2.heap.size := by have := HO2.out.lt g rfl; omega
      go_wp2_with (at_builtin; refine wpList_app el_strG rfl _ _ rfl (w.heap.size + 1) _ _ _ rfl HO2.out [.string (sufS k)] rfl rfl rfl (one1 rfl) (by omega) hsz2' ?_; intro v2 w3 ho hk2 hm2)
      have hplt : ∀ q, (Value.slice (some ⟨g, 0, none⟩) (5 + k) d).ownBlock = some q → p < q := fun q hq => by have := (HO2.out.lt q hq).1; omega
      have HC3 := Lib.hid (HC2.out.kept hk2 hplt)
      have HK3 := Lib.hid (show Kept (fun q => q = p) w w3 from ⟨hk2.os.trans HK2.out.os, hk2.tape.trans HK2.out.tape, hk2.output.trans HK2.out.output, Nat.le_trans (by omega) hk2.size, fun b hb hn => (hk2.block b (by omega) (fun e => by have := (HO2.out.lt b e).1; omega)).trans (HK2.out.block b hb hn)⟩)
      have HO3 := Lib.hid (show w3.ownsRow (w.heap.size + 1) 9 1 v2 (5 + (k + 1)) (strs (l2 ++ [sufS k])) from by rw [show 5 + (k + 1) = 5 + k + 1 by omega, show strs (l2 ++ [sufS k]) = strs l2 ++ [.string (sufS k)] from by simp [strs]]; exact ho)
      have HS3 := Lib.hid (show ∀ x ∈ l2 ++ [sufS k], x.size ≤ 100 from fun x hx => by
        rcases List.mem_append.1 hx with h | h
        · exact HSZ2.out x h
        simp at h; subst h; exact sufS_size k)
      have HL3 := Lib.hid (show (l2 ++ [sufS k]).length = 5 + (k + 1) from by rw [List.length_append, HLL2.out]; rfl)
      obtain ⟨g', d', hv', _⟩ := own_ptr ho (by omega)
      rw [show 5 + k + 1 = 5 + (k + 1) by omega] at hv'
      rw [hv'] at HO3
      clear ho hk2 hm2 hplt
      subst hv'
      go_wp2_with fail
      go_roundw
      case rel => exact ⟨k + 1, l2 ++ [sufS k], K2 + 2, g', d', by omega, by go_num, by omega, HL3.out, rfl, HO3.out, HS3.out, HC3.out, HK3.out⟩
      case measure => simp [intOf]; omega
    have hnd : ¬ d = 5 := by omega
    have hne : ((5 : Int) == (d : Int)) = false := by rw [beq_eq_false_iff_ne]; omega
    have hl5 : (l2.drop 5).length = k := by rw [List.length_drop, HLL2.out]; omega
    have HD := Lib.hid (show DS3 w.heap.size w2 (.slice (some ⟨g, 5, none⟩) k (d - 5)) (l2.drop 5) from
      { ex := ⟨some ⟨g, 5, none⟩, d - 5, by rw [hl5], fun W hW => by
          have h := Cells.of_owns (ownsK HO2.out hW (fun q hq e => by have := (HO2.out.lt q hq).1; omega))
          have h2 := cells_drop0 h 5
          rw [Nat.zero_add] at h2
          rw [strs, List.map_drop]; exact h2⟩
        len := by rw [hl5]; omega, sz := fun s hs => HSZ2.out s (List.mem_of_mem_drop hs) })
    have HCF := Lib.hid (HC2.out.mono (K' := K + 100) (by omega))
    have hk5 : (5 : Int) ≤ ((5 + k : Nat) : Int) := by omega
    have hk6 : ((5 + k : Nat) : Int) ≤ (d : Int) := by omega
    clear hl5
    go_wp2_with fail
    go_ret
    exact ⟨_, _, rfl, HD.out, HCF.out, HK2.out⟩
  have e1 : (x == 1) = false := by simpa using h1
  have HD := Lib.hid (ds3_own HO1.out (by omega) HSZ.out)
  have HCF := Lib.hid (HC1.out.mono (K' := K + 100) (by omega))
  go_wp2_with fail
  go_ret
  exact ⟨_, _, rfl, HD.out, HCF.out, HK1.out⟩

end Go.Proofs.YtijkdpdmclkmlaaGreatDoor
