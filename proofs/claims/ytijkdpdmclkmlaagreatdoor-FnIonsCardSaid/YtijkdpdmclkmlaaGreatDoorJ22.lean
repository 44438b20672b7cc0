/- The draws of ions, substitutions and new names. -/
import Derived.Test.YtijkdpdmclkmlaaGreatDoorProg
import Derived.Test.YtijkdpdmclkmlaaGreatDoorJ0
import Derived.Test.YtijkdpdmclkmlaaGreatDoorJ4
import Derived.Test.YtijkdpdmclkmlaaGreatDoorJ19
import Derived.BigQuiet
import Derived.Test.YtijkdpdmclkmlaaGreatDoorJ21
import Derived.OwnWalk
set_option linter.unusedSimpArgs false
set_option linter.unusedVariables false
set_option maxRecDepth 100000
set_option maxHeartbeats 16000000
namespace Go.Proofs.YtijkdpdmclkmlaaGreatDoor
open Go.RowKit
theorem drawNewNames_any (A : Option Addr) (bs : List Int) (c : Nat) (w : World) (hA : Cells w A (u8s bs)) (hrng : ∀ x ∈ bs, 0 ≤ x ∧ x < 256) (hlen : bs.length ≤ 1000000000000) :
  Calls Tryz.prog 40 #[.slice A bs.length c] w fun e w' => ∃ (P : Option Addr) (d : Nat) (l : List ByteArray), e = .returned (.slice P l.length d) ∧ l.length ≤ 40 ∧ (∀ s ∈ l, s.size ≤ 100) ∧ Cells w' P (strs l) ∧ Below w.heap.size w w' := by
 obtain ⟨W0, hW0, hb0, hs0, -⟩ := laid1 w (.cells #[.slice A bs.length c, .int .i64 0, .int .u64 0] 72)
 have HC0 := Lib.hid (show Cur W0 w.heap.size A bs c 0 from by rw [hW0]; exact Cur.start hA hrng hlen)
 have HB0 := Lib.hid hb0
 have HW0 := Lib.hid hW0
 clear hA hrng hlen hb0 hW0
 go_enter Tryz.func40, Tryz.ntmps40
 have H2 := Lib.hid (names3_any w.heap.size A bs c 0 W0 HC0.out (by omega))
 go_wp2_with (rw [← HW0.out])
 (with_reducible refine H2.out.mono ?_)
 rintro e w2 ⟨v, l, rfl, hd, hc, hk⟩
 obtain ⟨P, d, rfl, hcv⟩ := hd.ex
 have HF := Lib.hid (And.intro hd.len (And.intro hd.sz (hcv w2 (Kept.refl _ _))))
 have HB := Lib.hid (HB0.out.trans (hk.below (fun b hb => by omega) (by omega)))
 clear hd hc hk hcv H2
 go_wp2_with fail
 go_ret
 exact ⟨_, _, _, rfl, HF.out.1, HF.out.2.1, HF.out.2.2, HB.out⟩

theorem kept_firm {A : Option Addr} {cs : List Value} {N M : Nat} {W1 W2 : World} {p : Nat} (h : ∀ W, Kept (fun q => q < N) W1 W → Cells W A cs) (hk : Kept (fun q => q = p ∨ M ≤ q) W1 W2) (hp : p < N) (hM : W1.heap.size ≤ M) : Cells W2 A cs :=
 h W2 ⟨hk.os, hk.tape, hk.output, hk.size, fun b hb hn => hk.block b hb (by omega)⟩

theorem drawSubstitutionOf_any (A : Option Addr) (bs : List Int) (c : Nat) (w : World) (hA : Cells w A (u8s bs)) (hrng : ∀ x ∈ bs, 0 ≤ x ∧ x < 256) (hlen : bs.length ≤ 1000000000000) :
  Calls Tryz.prog 37 #[.slice A bs.length c] w fun e w' => ∃ (P : Option Addr) (d : Nat) (l : List ByteArray) (P2 : Option Addr) (d2 : Nat) (l2 : List ByteArray), e = .returned (.tuple #[.slice P l.length d, .slice P2 l2.length d2]) ∧ (l.length ≤ 40 ∧ ∀ s ∈ l, s.size ≤ 100) ∧ (l2.length ≤ 41 ∧ ∀ s ∈ l2, s.size ≤ 100) ∧ Cells w' P (strs l) ∧ Cells w' P2 (strs l2) ∧ Below w.heap.size w w' := by
 obtain ⟨W0, hW0, hb0, hs0, -⟩ := laid1 w (.cells #[.slice A bs.length c, .int .i64 0, .int .u64 0] 72)
 have HC0 := Lib.hid (show Cur W0 w.heap.size A bs c 0 from by rw [hW0]; exact Cur.start hA hrng hlen)
 have HB0 := Lib.hid hb0
 have HW0 := Lib.hid hW0
 clear hA hrng hlen hb0 hW0
 go_enter Tryz.func37, Tryz.ntmps37
 have H2 := Lib.hid (names3_any w.heap.size A bs c 0 W0 HC0.out (by omega))
 go_wp2_with (rw [← HW0.out])
 (with_reducible refine H2.out.mono ?_)
 rintro e w1 ⟨v, l, rfl, hd, hc, hk⟩
 obtain ⟨P, d, rfl, hcv⟩ := hd.ex
 have HF := Lib.hid (And.intro hd.len hd.sz)
 have HCV := Lib.hid hcv
 have HC1 := Lib.hid hc
 have HK1 := Lib.hid hk
 have hll := hd.len
 have hs1 := hk.size
 have hpw := hc.lt
 clear hd hc hk hcv H2
 obtain ⟨wa, hwa, hba, hsa, -⟩ := laid1 w1 (.cells #[] 9)
 have HOA := Lib.hid (show wa.ownsRow w1.heap.size 9 1 (.slice (some ⟨w1.heap.size, 0, none⟩) 0 0) 0 [] from by rw [hwa]; exact made_rowG w1 9)
 have HBA := Lib.hid hba
 have HWA := Lib.hid hwa
 clear hba hwa
 go_wp2_with fail
 rw [← HWA.out]
 go_loopw [6, 7] (fun v i wr => ∃ (j : Nat) (l2 : List ByteArray) (K1 : Nat), j ≤ l.length ∧ i = .int .i64 j ∧ K1 ≤ 100 + 2 * j ∧ wr.ownsRow w1.heap.size 9 1 v l2.length (strs l2) ∧ l2.length = j ∧ (∀ s ∈ l2, s.size ≤ 100) ∧ Cur wr w.heap.size A bs c K1 ∧ Kept (fun q => q = w.heap.size ∨ w1.heap.size ≤ q) w1 wr)
  (fun v i _ => l.length - (intOf i).toNat)
 case atStart => exact ⟨0, [], 100, Nat.zero_le _, rfl, by omega, HOA.out, rfl, fun s hs => by simp at hs, HC1.out.below HBA.out, Kept.of_below HBA.out _⟩
 obtain ⟨j, l2, K1, hj, rfl, hK1, hown, hll2, hsz, hcur, hkept⟩ := hrel
 obtain ⟨AU, cU, rfl, hown⟩ := owns_form hown
 have HO := Lib.hid hown
 have HSZ := Lib.hid hsz
 have HC := Lib.hid hcur
 have HK := Lib.hid hkept
 have HL2 := Lib.hid hll2
 have hl41 : l2.length ≤ 41 := by omega
 have hws := hkept.size
 clear hown hsz hcur hkept hll2
 by_cases hlt : j < l.length
 ·obtain ⟨w5, hw5, hb5, -⟩ := laid1 wr (.cells #[.string ⟨#[120]⟩, .string ⟨#[121]⟩, .string ⟨#[97]⟩, .string ⟨#[122, 122]⟩, .string ⟨#[113]⟩] 9)
  have H5 := Lib.hid (show Calls Tryz.prog 113 #[.pointer (some ⟨w.heap.size, 0, none⟩), .slice (some ⟨wr.heap.size, 0, none⟩) 5 5] w5 _ from
   ofG_any w.heap.size A bs c K1 wr.heap.size 5 [⟨#[120]⟩, ⟨#[121]⟩, ⟨#[97]⟩, ⟨#[122, 122]⟩, ⟨#[113]⟩] w5 (HC.out.below hb5) (by omega) (by decide) (by decide) (by rw [hw5]; exact cellsG (heap_alloc_new wr _)) (by omega))
  have HK5 := Lib.hid (HK.out.trans (Kept.of_below hb5 _))
  have HO5 := Lib.hid (owns_below HO.out hb5 (Nat.le_refl _))
  have hs5 := hb5.size
  have HW5 := Lib.hid hw5
  clear hb5 hw5
  go_wp2_with fail
  rw [← HW5.out]
  (with_reducible refine H5.out.mono ?_)
  rintro e w6 ⟨s, rfl, hs, hC6, hK6⟩
  have HSS := Lib.hid (show s.size ≤ 100 from by
   simp only [List.mem_cons, List.not_mem_nil, or_false] at hs
   rcases hs with rfl | rfl | rfl | rfl | rfl <;> decide)
  have HO6 := Lib.hid (ownsK HO5.out hK6 (fun g hg e => by have := (HO5.out.lt g hg).1; omega))
  have HK6 := Lib.hid (HK5.out.trans (hK6.mono fun q hq => .inl hq))
  have HC6 := Lib.hid hC6
  have hsz6 : w1.heap.size ≤ w6.heap.size := by have := hK6.size; omega
  clear hC6 hK6 hs H5
  go_wp2_with (at_builtin; refine wpList_app el_strG rfl _ _ rfl w1.heap.size _ _ _ rfl HO6.out [.string s] rfl rfl rfl (one1 rfl) (by omega) hsz6 ?_; intro v2 w7 ho hk2 hm2)
  have HO2 := Lib.hid (show w7.ownsRow w1.heap.size 9 1 v2 (l2 ++ [s]).length (strs (l2 ++ [s])) from by rw [List.length_append, show strs (l2 ++ [s]) = strs l2 ++ [.string s] from by simp [strs]]; exact ho)
  have hplt : ∀ q, (Value.slice AU l2.length cU).ownBlock = some q → w.heap.size < q := fun q hq => by have := (HO6.out.lt q hq).1; omega
  have HC2 := Lib.hid (HC6.out.kept hk2 hplt)
  have HK2 := Lib.hid (show Kept (fun q => q = w.heap.size ∨ w1.heap.size ≤ q) w1 w7 from (HK6.out.mono fun q hq => hq).trans (hk2.mono fun q hq => .inr (HO6.out.lt q hq).1))
  have HS2 := Lib.hid (show ∀ x ∈ l2 ++ [s], x.size ≤ 100 from fun x hx => by
   rcases List.mem_append.1 hx with h | h
   ·exact HSZ.out x h
   simp at h; subst h; exact HSS.out)
  clear ho hk2 hm2 hplt
  go_wp2_with fail
  go_roundw
  case rel => exact ⟨j + 1, l2 ++ [s], K1 + 2, by omega, by go_num, by omega, HO2.out, by rw [List.length_append, HL2.out]; rfl, HS2.out, HC2.out, HK2.out⟩
  case measure => simp [intOf]; omega
 obtain rfl : j = l.length := by omega
 have H1 := Lib.hid (one_any w.heap.size A bs c K1 12 wr HC.out (by omega) (by omega))
 go_wp2_with fail
 (with_reducible refine H1.out.mono ?_)
 rintro e w3 ⟨b, rfl, hc, hk⟩
 have HC3 := Lib.hid hc
 have HO3 := Lib.hid (ownsK HO.out hk (fun g hg e => by have := (HO.out.lt g hg).1; omega))
 have HK3 := Lib.hid (HK.out.trans (hk.mono fun q hq => .inl hq))
 have hw3 := hk.size
 clear hc hk H1
 cases b
 ·go_wp2_with fail
  go_ret2
  exact ⟨_, _, l, _, _, l2, rfl, HF.out, ⟨hl41, HSZ.out⟩, kept_firm HCV.out HK3.out (by omega) (Nat.le_refl _), Cells.of_owns HO3.out, (HB0.out.trans (HK1.out.below (fun b hb => by omega) (by omega))).trans ((HK3.out.below (B := w.heap.size) (fun b hb => by omega) (by omega)))⟩
 clear HO HC HK
 have HO := Lib.hid HO3.out
 have HC := Lib.hid HC3.out
 have HK := Lib.hid HK3.out
 obtain ⟨w5, hw5, hb5, -⟩ := laid1 w3 (.cells #[.string ⟨#[120]⟩, .string ⟨#[]⟩] 9)
 have H5 := Lib.hid (show Calls Tryz.prog 113 #[.pointer (some ⟨w.heap.size, 0, none⟩), .slice (some ⟨w3.heap.size, 0, none⟩) 2 2] w5 _ from
  ofG_any w.heap.size A bs c (K1 + 2) w3.heap.size 2 [⟨#[120]⟩, ⟨#[]⟩] w5 (HC.out.below hb5) (by omega) (by decide) (by decide) (by rw [hw5]; exact cellsG (heap_alloc_new w3 _)) (by omega))
 have HK5 := Lib.hid (HK.out.trans (Kept.of_below hb5 _))
 have HO5 := Lib.hid (owns_below HO.out hb5 (Nat.le_refl _))
 have hs5 := hb5.size
 have HW5 := Lib.hid hw5
 clear hb5 hw5
 go_wp2_with fail
 rw [← HW5.out]
 (with_reducible refine H5.out.mono ?_)
 rintro e w6 ⟨s, rfl, hs, hC6, hK6⟩
 have HSS := Lib.hid (show s.size ≤ 100 from by
  simp only [List.mem_cons, List.not_mem_nil, or_false] at hs
  rcases hs with rfl | rfl <;> decide)
 have HO6 := Lib.hid (ownsK HO5.out hK6 (fun g hg e => by have := (HO5.out.lt g hg).1; omega))
 have HK6 := Lib.hid (HK5.out.trans (hK6.mono fun q hq => .inl hq))
 have HC6 := Lib.hid hC6
 have hsz6 : w1.heap.size ≤ w6.heap.size := by have := hK6.size; omega
 clear hC6 hK6 hs H5
 go_wp2_with (at_builtin; refine wpList_app el_strG rfl _ _ rfl w1.heap.size _ _ _ rfl HO6.out [.string s] rfl rfl rfl (one1 rfl) (by omega) hsz6 ?_; intro v2 w7 ho hk2 hm2)
 have HO2 := Lib.hid (show w7.ownsRow w1.heap.size 9 1 v2 (l2 ++ [s]).length (strs (l2 ++ [s])) from by rw [List.length_append, show strs (l2 ++ [s]) = strs l2 ++ [.string s] from by simp [strs]]; exact ho)
 have hplt : ∀ q, (Value.slice AU l2.length cU).ownBlock = some q → w.heap.size < q := fun q hq => by have := (HO6.out.lt q hq).1; omega
 have HC2 := Lib.hid (HC6.out.kept hk2 hplt)
 have HK2 := Lib.hid (show Kept (fun q => q = w.heap.size ∨ w1.heap.size ≤ q) w1 w7 from (HK6.out.mono fun q hq => hq).trans (hk2.mono fun q hq => .inr (HO6.out.lt q hq).1))
 have HS2 := Lib.hid (show ∀ x ∈ l2 ++ [s], x.size ≤ 100 from fun x hx => by
  rcases List.mem_append.1 hx with h | h
  ·exact HSZ.out x h
  simp at h; subst h; exact HSS.out)
 clear ho hk2 hm2 hplt
 have hl9 : (l2 ++ [s]).length ≤ 41 := by have := HL2.out; have := HF.out.1; simp only [List.length_append, List.length_cons, List.length_nil]; omega
 have HL9 := Lib.hid hl9
 clear hl9
 obtain ⟨AV, cV, rfl, hov⟩ := owns_form HO2.out
 clear hov
 go_wp2_with fail
 go_ret2
 exact ⟨_, _, l, _, _, l2 ++ [s], rfl, HF.out, ⟨HL9.out, HS2.out⟩, kept_firm HCV.out HK2.out (by omega) (Nat.le_refl _), Cells.of_owns HO2.out, (HB0.out.trans (HK1.out.below (fun b hb => by omega) (by omega))).trans ((HK2.out.below (B := w.heap.size) (fun b hb => by omega) (by omega)))⟩

theorem ion_end {w W1 W3 : World} {N M : Nat} {p : Nat} {e : TypeId} {AG AU : Option Addr} {cG cU : Nat} {sig : List Ct} {l : List ByteArray} {ct : Int} (hS : SmallS sig) (hl : l.length ≤ 41) (hz : ∀ s ∈ l, s.size ≤ 100) (hog : W1.ownsRow N e 3 (.slice AG sig.length cG) sig.length (sig.flatMap encCt)) (ho : W3.ownsRow M 9 1 (.slice AU l.length cU) l.length (strs l)) (hk : Kept (fun q => q = p ∨ W1.heap.size ≤ q) W1 W3) (hp : p < N) (hb : Below w.heap.size w W3) :
  ∃ (gv : Value) (sig' : List Ct) (ct' : Int) (P : Option Addr) (d : Nat) (l' : List ByteArray), Ending.returned (.tuple #[.slice AG sig.length cG, .int .i64 ct, .slice AU l.length cU]) = .returned (.tuple #[gv, .int .i64 ct', .slice P l'.length d]) ∧ SmallS sig' ∧ (l'.length ≤ 41 ∧ ∀ s ∈ l', s.size ≤ 100) ∧ CapOk gv ∧ RSl RCt 3 W3 gv sig' ∧ Cells W3 P (strs l') ∧ Below w.heap.size w W3 := by
 have hg := ownsK hog hk (fun g hg e => by have := hog.lt g hg; omega)
 exact ⟨_, sig, ct, AU, cU, l, rfl, hS, ⟨hl, hz⟩, owns_capOk hg, ct_rsl hg hS.len, Cells.of_owns ho, hb⟩

theorem drawIonOf_any (A : Option Addr) (bs : List Int) (c : Nat) (w : World) (hA : Cells w A (u8s bs)) (hrng : ∀ x ∈ bs, 0 ≤ x ∧ x < 256) (hlen : bs.length ≤ 1000000000000) :
  Calls Tryz.prog 32 #[.slice A bs.length c] w fun e w' => ∃ (gv : Value) (sig : List Ct) (ct : Int) (P : Option Addr) (d : Nat) (l : List ByteArray), e = .returned (.tuple #[gv, .int .i64 ct, .slice P l.length d]) ∧ SmallS sig ∧ (l.length ≤ 41 ∧ ∀ s ∈ l, s.size ≤ 100) ∧ CapOk gv ∧ RSl RCt 3 w' gv sig ∧ Cells w' P (strs l) ∧ Below w.heap.size w w' := by
 obtain ⟨W0, hW0, hb0, hs0, -⟩ := laid1 w (.cells #[.slice A bs.length c, .int .i64 0, .int .u64 0] 72)
 have HC0 := Lib.hid (show Cur W0 w.heap.size A bs c 0 from by rw [hW0]; exact Cur.start hA hrng hlen)
 have HB0 := Lib.hid hb0
 have HW0 := Lib.hid hW0
 clear hA hrng hlen hb0 hW0
 go_enter Tryz.func32, Tryz.ntmps32
 have H2 := Lib.hid (sig_any w.heap.size A bs c 0 W0 HC0.out (by omega))
 go_wp2_with (rw [← HW0.out])
 (with_reducible refine H2.out.mono ?_)
 rintro e w9 ⟨gv, sig, rfl, hd, hc, hk⟩
 have hsl := hd.small.len
 obtain ⟨AG, cG, rfl, _⟩ := (ct_rsl hd.own hsl).form
 have H3 := Lib.hid (pick_any w.heap.size A bs c (0 + 20) ((sig.length : Int) + 2) w9 hc (by omega) (by omega))
 have HD := Lib.hid hd
 have HK9 := Lib.hid hk
 clear hd hc hk H2
 go_wp2_with fail
 (with_reducible refine H3.out.mono ?_)
 rintro e w1 ⟨x, rfl, hx0, hx1, hc, hk⟩
 have hx2 := hx1 (by omega)
 have HOG := Lib.hid (owns_mono (ownsK HD.out.own hk (fun g hg e => by have := (HD.out.own.lt g hg).1; omega)) (show w.heap.size + 1 ≤ W0.heap.size by omega))
 have HC1 := Lib.hid hc
 have HK1 := Lib.hid (HK9.out.trans hk)
 have HSM := Lib.hid HD.out.small
 have HPO := Lib.hid HD.out.ports
 have hs1 := HK1.out.size
 have hpw := hc.lt
 obtain ⟨ct, hct⟩ : ∃ ct, ct = x - 1 := ⟨_, rfl⟩
 have hc0 : -1 ≤ ct ∧ ct ≤ sig.length := by omega
 have HCT := Lib.hid hct
 clear hc hk H3 hx1 hct HD
 obtain ⟨wa, hwa, hba, hsa, -⟩ := laid1 w1 (.cells #[] 9)
 have HOA := Lib.hid (show wa.ownsRow w1.heap.size 9 1 (.slice (some ⟨w1.heap.size, 0, none⟩) 0 0) 0 [] from by rw [hwa]; exact made_rowG w1 9)
 have HBA := Lib.hid hba
 have HWA := Lib.hid hwa
 clear hba hwa
 obtain ⟨m, l2, K1, hm⟩ : ∃ (m : Nat) (l2 : List ByteArray) (K1 : Nat), True := ⟨0, [], 0, trivial⟩
 clear m l2 K1 hm
 by_cases hcr : 0 ≤ ct ∧ ct < sig.length
 ·obtain ⟨m, rfl⟩ := Int.eq_ofNat_of_zero_le hcr.1
  have hml : m < sig.length := by omega
  have q0 : (0 : Int) ≤ (m : Int) := by omega
  have q1 : (m : Int) < (sig.length : Int) := by omega
  have HPM := Lib.hid (HPO.out _ (List.getElem_mem hml))
  go_wp2_with (first | rw [← HCT.out] | rw [← HWA.out])
  go_loopw [8, 9] (fun v i wr => ∃ (j : Nat) (l2 : List ByteArray) (K1 : Nat), j ≤ 4 ∧ i = .int .i64 j ∧ K1 ≤ 22 + 2 * j ∧ wr.ownsRow w1.heap.size 9 1 v l2.length (strs l2) ∧ l2.length = j ∧ (∀ s ∈ l2, s.size ≤ 100) ∧ Cur wr w.heap.size A bs c K1 ∧ Kept (fun q => q = w.heap.size ∨ w1.heap.size ≤ q) w1 wr)
   (fun v i _ => 4 - (intOf i).toNat)
  case atStart => exact ⟨0, [], 22, Nat.zero_le _, rfl, by omega, HOA.out, rfl, fun s hs => by simp at hs, HC1.out.below HBA.out, Kept.of_below HBA.out _⟩
  obtain ⟨j, l2, K1, hj, rfl, hK1, hown, hll2, hsz, hcur, hkept⟩ := hrel
  obtain ⟨AU, cU, rfl, hown⟩ := owns_form hown
  have HO := Lib.hid hown
  have HSZ := Lib.hid hsz
  have HC := Lib.hid hcur
  have HK := Lib.hid hkept
  have HL2 := Lib.hid hll2
  have hl41 : l2.length ≤ 4 := by omega
  have hws := hkept.size
  have hog := ownsK HOG.out hkept (fun g hg e => by have := HOG.out.lt g hg; omega)
  obtain ⟨b', o', c', eS, _, s1, _⟩ := ct_at (ct_rsl hog hsl) hml
  cases eS
  obtain ⟨y, hy⟩ : ∃ y, y = sig[m].2.1 := ⟨_, rfl⟩
  have hyp := HPM.out
  rw [← hy] at s1 hyp
  clear hown hsz hcur hkept hll2 hog hy
  by_cases hlt : (j : Int) < y
  ·obtain ⟨w5, hw5, hb5, -⟩ := laid1 wr (.cells #[.string ⟨#[120]⟩, .string ⟨#[121]⟩, .string ⟨#[97]⟩] 9)
   have H5 := Lib.hid (show Calls Tryz.prog 113 #[.pointer (some ⟨w.heap.size, 0, none⟩), .slice (some ⟨wr.heap.size, 0, none⟩) 3 3] w5 _ from
    ofG_any w.heap.size A bs c K1 wr.heap.size 3 [⟨#[120]⟩, ⟨#[121]⟩, ⟨#[97]⟩] w5 (HC.out.below hb5) (by omega) (by decide) (by decide) (by rw [hw5]; exact cellsG (heap_alloc_new wr _)) (by omega))
   have HK5 := Lib.hid (HK.out.trans (Kept.of_below hb5 _))
   have HO5 := Lib.hid (owns_below HO.out hb5 (Nat.le_refl _))
   have hs5 := hb5.size
   have HW5 := Lib.hid hw5
   clear hb5 hw5
   go_wp2_with fail
   rw [← HW5.out]
   (with_reducible refine H5.out.mono ?_)
   rintro e w6 ⟨s, rfl, hs, hC6, hK6⟩
   have HSS := Lib.hid (show s.size ≤ 100 from by
    simp only [List.mem_cons, List.not_mem_nil, or_false] at hs
    rcases hs with rfl | rfl | rfl <;> decide)
   have HO6 := Lib.hid (ownsK HO5.out hK6 (fun g hg e => by have := (HO5.out.lt g hg).1; omega))
   have HK6 := Lib.hid (HK5.out.trans (hK6.mono fun q hq => .inl hq))
   have HC6 := Lib.hid hC6
   have hsz6 : w1.heap.size ≤ w6.heap.size := by have := hK6.size; omega
   clear hC6 hK6 hs H5
   go_wp2_with (at_builtin; refine wpList_app el_strG rfl _ _ rfl w1.heap.size _ _ _ rfl HO6.out [.string s] rfl rfl rfl (one1 rfl) (by omega) hsz6 ?_; intro v2 w7 ho hk2 hm2)
   have HO2 := Lib.hid (show w7.ownsRow w1.heap.size 9 1 v2 (l2 ++ [s]).length (strs (l2 ++ [s])) from by rw [List.length_append, show strs (l2 ++ [s]) = strs l2 ++ [.string s] from by simp [strs]]; exact ho)
   have hplt : ∀ q, (Value.slice AU l2.length cU).ownBlock = some q → w.heap.size < q := fun q hq => by have := (HO6.out.lt q hq).1; omega
   have HC2 := Lib.hid (HC6.out.kept hk2 hplt)
   have HK2 := Lib.hid (show Kept (fun q => q = w.heap.size ∨ w1.heap.size ≤ q) w1 w7 from (HK6.out.mono fun q hq => hq).trans (hk2.mono fun q hq => .inr (HO6.out.lt q hq).1))
   have HS2 := Lib.hid (show ∀ x ∈ l2 ++ [s], x.size ≤ 100 from fun x hx => by
    rcases List.mem_append.1 hx with h | h
    ·exact HSZ.out x h
    simp at h; subst h; exact HSS.out)
   clear ho hk2 hm2 hplt
   go_wp2_with fail
   go_roundw
   case rel => exact ⟨j + 1, l2 ++ [s], K1 + 2, by omega, by go_num, by omega, HO2.out, by rw [List.length_append, HL2.out]; rfl, HS2.out, HC2.out, HK2.out⟩
   case measure => simp [intOf]; omega
  have hl41' : l2.length ≤ 41 := by omega
  have H1 := Lib.hid (one_any w.heap.size A bs c K1 12 wr HC.out (by omega) (by omega))
  go_wp2_with fail
  (with_reducible refine H1.out.mono ?_)
  rintro e w3 ⟨b, rfl, hc, hk⟩
  have HC3 := Lib.hid hc
  have HO3 := Lib.hid (ownsK HO.out hk (fun g hg e => by have := (HO.out.lt g hg).1; omega))
  have HK3 := Lib.hid (HK.out.trans (hk.mono fun q hq => .inl hq))
  have hw3 := hk.size
  clear hc hk H1
  cases b
  ·go_wp2_with fail
   go_ret3
   exact ion_end (ct := (m : Int)) HSM.out hl41' HSZ.out HOG.out HO3.out HK3.out (by omega) (HB0.out.trans ((HK1.out.below (B := w.heap.size) (fun b hb => by omega) (by omega)).trans (HK3.out.below (B := w.heap.size) (fun b hb => by omega) (by omega))))
  clear HO HC HK
  have HO := Lib.hid HO3.out
  have HC := Lib.hid HC3.out
  have HK := Lib.hid HK3.out
  obtain ⟨w5, hw5, hb5, -⟩ := laid1 w3 (.cells #[.string ⟨#[120]⟩, .string ⟨#[]⟩, .string ⟨#[88]⟩] 9)
  have H5 := Lib.hid (show Calls Tryz.prog 113 #[.pointer (some ⟨w.heap.size, 0, none⟩), .slice (some ⟨w3.heap.size, 0, none⟩) 3 3] w5 _ from
   ofG_any w.heap.size A bs c (K1 + 2) w3.heap.size 3 [⟨#[120]⟩, ⟨#[]⟩, ⟨#[88]⟩] w5 (HC.out.below hb5) (by omega) (by decide) (by decide) (by rw [hw5]; exact cellsG (heap_alloc_new w3 _)) (by omega))
  have HK5 := Lib.hid (HK.out.trans (Kept.of_below hb5 _))
  have HO5 := Lib.hid (owns_below HO.out hb5 (Nat.le_refl _))
  have hs5 := hb5.size
  have HW5 := Lib.hid hw5
  clear hb5 hw5
  go_wp2_with fail
  rw [← HW5.out]
  (with_reducible refine H5.out.mono ?_)
  rintro e w6 ⟨s, rfl, hs, hC6, hK6⟩
  have HSS := Lib.hid (show s.size ≤ 100 from by
   simp only [List.mem_cons, List.not_mem_nil, or_false] at hs
   rcases hs with rfl | rfl | rfl <;> decide)
  have HO6 := Lib.hid (ownsK HO5.out hK6 (fun g hg e => by have := (HO5.out.lt g hg).1; omega))
  have HK6 := Lib.hid (HK5.out.trans (hK6.mono fun q hq => .inl hq))
  have HC6 := Lib.hid hC6
  have hsz6 : w1.heap.size ≤ w6.heap.size := by have := hK6.size; omega
  clear hC6 hK6 hs H5
  go_wp2_with (at_builtin; refine wpList_app el_strG rfl _ _ rfl w1.heap.size _ _ _ rfl HO6.out [.string s] rfl rfl rfl (one1 rfl) (by omega) hsz6 ?_; intro v2 w7 ho hk2 hm2)
  have HO2 := Lib.hid (show w7.ownsRow w1.heap.size 9 1 v2 (l2 ++ [s]).length (strs (l2 ++ [s])) from by rw [List.length_append, show strs (l2 ++ [s]) = strs l2 ++ [.string s] from by simp [strs]]; exact ho)
  have hplt : ∀ q, (Value.slice AU l2.length cU).ownBlock = some q → w.heap.size < q := fun q hq => by have := (HO6.out.lt q hq).1; omega
  have HC2 := Lib.hid (HC6.out.kept hk2 hplt)
  have HK2 := Lib.hid (show Kept (fun q => q = w.heap.size ∨ w1.heap.size ≤ q) w1 w7 from (HK6.out.mono fun q hq => hq).trans (hk2.mono fun q hq => .inr (HO6.out.lt q hq).1))
  have HS2 := Lib.hid (show ∀ x ∈ l2 ++ [s], x.size ≤ 100 from fun x hx => by
   rcases List.mem_append.1 hx with h | h
   ·exact HSZ.out x h
   simp at h; subst h; exact HSS.out)
  clear ho hk2 hm2 hplt
  obtain ⟨AV, cV, rfl, hov⟩ := owns_form HO2.out
  clear hov
  go_wp2_with fail
  go_ret3
  exact ion_end (ct := (m : Int)) HSM.out (by simp only [List.length_append, List.length_cons, List.length_nil]; omega) HS2.out HOG.out HO2.out HK2.out (by omega) (HB0.out.trans ((HK1.out.below (B := w.heap.size) (fun b hb => by omega) (by omega)).trans (HK2.out.below (B := w.heap.size) (fun b hb => by omega) (by omega))))
 have hnc : ct < 0 ∨ (0 ≤ ct ∧ ¬ ct < (sig.length : Int)) := by omega
 have hl41' : ([] : List ByteArray).length ≤ 41 := by decide
 have HSZ := Lib.hid (show ∀ s ∈ ([] : List ByteArray), s.size ≤ 100 from fun s hs => (nomatch hs))
 have HK := Lib.hid (Kept.of_below HBA.out (fun q => q = w.heap.size ∨ w1.heap.size ≤ q))
 have HC := Lib.hid (HC1.out.below HBA.out)
 have HO := Lib.hid (show wa.ownsRow w1.heap.size 9 1 (.slice (some ⟨w1.heap.size, 0, none⟩) 0 0) 0 (strs []) from HOA.out)
 have H1 := Lib.hid (one_any w.heap.size A bs c (0 + 20 + 2) 12 wa HC.out (by omega) (by omega))
 rcases hnc with hnc | ⟨hnd, hnc⟩
 all_goals
  go_wp2_with (first | rw [← HCT.out] | rw [← HWA.out])
  (with_reducible refine H1.out.mono ?_)
  rintro e w3 ⟨b, rfl, hc, hk⟩
  have HC3 := Lib.hid hc
  have HO3 := Lib.hid (ownsK HO.out hk (fun g hg e => by have := (HO.out.lt g hg).1; omega))
  have HK3 := Lib.hid (HK.out.trans (hk.mono fun q hq => .inl hq))
  have hw3 := hk.size
  clear hc hk H1
  cases b
  ·go_wp2_with fail
   go_ret3
   exact ion_end (ct := ct) HSM.out hl41' HSZ.out HOG.out HO3.out HK3.out (by omega) (HB0.out.trans ((HK1.out.below (B := w.heap.size) (fun b hb => by omega) (by omega)).trans (HK3.out.below (B := w.heap.size) (fun b hb => by omega) (by omega))))
  clear HO HC HK
  have HO := Lib.hid HO3.out
  have HC := Lib.hid HC3.out
  have HK := Lib.hid HK3.out
  obtain ⟨w5, hw5, hb5, -⟩ := laid1 w3 (.cells #[.string ⟨#[120]⟩, .string ⟨#[]⟩, .string ⟨#[88]⟩] 9)
  have H5 := Lib.hid (show Calls Tryz.prog 113 #[.pointer (some ⟨w.heap.size, 0, none⟩), .slice (some ⟨w3.heap.size, 0, none⟩) 3 3] w5 _ from
   ofG_any w.heap.size A bs c (0 + 20 + 2 + 2) w3.heap.size 3 [⟨#[120]⟩, ⟨#[]⟩, ⟨#[88]⟩] w5 (HC.out.below hb5) (by omega) (by decide) (by decide) (by rw [hw5]; exact cellsG (heap_alloc_new w3 _)) (by omega))
  have HK5 := Lib.hid (HK.out.trans (Kept.of_below hb5 _))
  have HO5 := Lib.hid (owns_below HO.out hb5 (Nat.le_refl _))
  have hs5 := hb5.size
  have HW5 := Lib.hid hw5
  clear hb5 hw5
  go_wp2_with fail
  rw [← HW5.out]
  (with_reducible refine H5.out.mono ?_)
  rintro e w6 ⟨s, rfl, hs, hC6, hK6⟩
  have HSS := Lib.hid (show s.size ≤ 100 from by
   simp only [List.mem_cons, List.not_mem_nil, or_false] at hs
   rcases hs with rfl | rfl | rfl <;> decide)
  have HO6 := Lib.hid (ownsK HO5.out hK6 (fun g hg e => by have := (HO5.out.lt g hg).1; omega))
  have HK6 := Lib.hid (HK5.out.trans (hK6.mono fun q hq => .inl hq))
  have HC6 := Lib.hid hC6
  have hsz6 : w1.heap.size ≤ w6.heap.size := by have := hK6.size; omega
  clear hC6 hK6 hs H5
  go_wp2_with (at_builtin; refine wpList_app el_strG rfl _ _ rfl w1.heap.size _ _ _ rfl HO6.out [.string s] rfl rfl rfl (one1 rfl) (by omega) hsz6 ?_; intro v2 w7 ho hk2 hm2)
  have HO2 := Lib.hid (show w7.ownsRow w1.heap.size 9 1 v2 (([] : List ByteArray) ++ [s]).length (strs (([] : List ByteArray) ++ [s])) from by rw [List.length_append, show strs (([] : List ByteArray) ++ [s]) = strs ([] : List ByteArray) ++ [.string s] from by simp [strs]]; exact ho)
  have hplt : ∀ q, (Value.slice (some ⟨w1.heap.size, 0, none⟩) 0 0).ownBlock = some q → w.heap.size < q := fun q hq => by have := (HO6.out.lt q hq).1; omega
  have HC2 := Lib.hid (HC6.out.kept hk2 hplt)
  have HK2 := Lib.hid (show Kept (fun q => q = w.heap.size ∨ w1.heap.size ≤ q) w1 w7 from (HK6.out.mono fun q hq => hq).trans (hk2.mono fun q hq => .inr (HO6.out.lt q hq).1))
  have HS2 := Lib.hid (show ∀ x ∈ ([] : List ByteArray) ++ [s], x.size ≤ 100 from fun x hx => by
   rcases List.mem_append.1 hx with h | h
   ·exact HSZ.out x h
   simp at h; subst h; exact HSS.out)
  clear ho hk2 hm2 hplt
  obtain ⟨AV, cV, rfl, hov⟩ := owns_form HO2.out
  clear hov
  go_wp2_with fail
  go_ret3
  exact ion_end (ct := ct) HSM.out (by simp only [List.length_append, List.length_cons, List.length_nil]; omega) HS2.out HOG.out HO2.out HK2.out (by omega) (HB0.out.trans ((HK1.out.below (B := w.heap.size) (fun b hb => by omega) (by omega)).trans (HK2.out.below (B := w.heap.size) (fun b hb => by omega) (by omega))))

end Go.Proofs.YtijkdpdmclkmlaaGreatDoor
