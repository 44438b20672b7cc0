/- The reference: links, roots and names in lists; parents, sites, wires of a bigraph with others: walked. -/
import Derived.Test.YtijkdpdmclkmlaaGreatDoorProg
import Derived.Test.YtijkdpdmclkmlaaGreatDoorJ8
import Derived.Test.YtijkdpdmclkmlaaGreatDoorJ0
import Derived.Test.YtijkdpdmclkmlaaGreatDoorJ19
import Derived.Test.YtijkdpdmclkmlaaGreatDoorJ3
import Derived.Test.YtijkdpdmclkmlaaGreatDoorJ14
import Derived.Test.YtijkdpdmclkmlaaGreatDoorJ20
import Derived.BigQuiet
import Derived.Test.YtijkdpdmclkmlaaGreatDoorJ15
import Derived.Test.YtijkdpdmclkmlaaGreatDoorJ10
import Derived.Test.YtijkdpdmclkmlaaGreatDoorJ6
import Derived.Test.YtijkdpdmclkmlaaGreatDoorJ33
import Derived.IntWalk
set_option linter.unusedSimpArgs false
set_option linter.unusedVariables false
set_option maxRecDepth 100000
set_option maxHeartbeats 16000000
namespace Go.Proofs.YtijkdpdmclkmlaaGreatDoor
open Go.RowKit
theorem atS_range (l : List ByteArray) (s : ByteArray) : -1 ≤ atS l s ∧ atS l s < l.length := by
 induction l with
 | nil => exact ⟨by unfold atS; omega, by unfold atS; simp⟩
 | cons x l ih =>
  unfold atS
  simp only [List.length_cons]
  split
  ·omega
  split <;> omega
theorem edgesL_nat (f : Int) (n : Nat) : edgesL f (n : Int) = (List.range n).map fun i : Nat => f + (i : Int) := by unfold edgesL; rw [Int.toNat_natCast]
theorem rootsL_nat (f : Int) (n : Nat) : rootsL f (n : Int) = (List.range n).map fun i : Nat => -1 - f - (i : Int) := by unfold rootsL; rw [Int.toNat_natCast]

theorem l4Edges_any (f : Int) (n : Nat) (w : World) (hf : -1000000 ≤ f ∧ f ≤ 1000000) (hn : n ≤ 1000000) :
  Calls Tryz.prog 211 #[.int .i64 f, .int .i64 (n : Int)] w fun e w' => ∃ u, e = .returned u ∧ w'.ownsRow w.heap.size 3 1 u n (ints (edgesL f (n : Int))) ∧ Below w.heap.size w w' := by
 rw [edgesL_nat]
 go_enter Tryz.func211, Tryz.ntmps211
 go_wp2_with fail
 go_loopw [5, 6] (fun v i wr => ∃ k : Nat, k ≤ n ∧ i = .int .i64 k ∧ wr.ownsRow w.heap.size 3 1 v k (ints ((List.range k).map fun i : Nat => f + (i : Int))) ∧ Below w.heap.size w wr)
  (fun v i _ => n - (intOf i).toNat)
 case atStart => exact ⟨0, Nat.zero_le _, rfl, (made_rowG w 3), (Below.refl _ _).alloc (Nat.le_refl _) _⟩
 obtain ⟨k, hk, rfl, hown, hbel⟩ := hrel
 obtain ⟨AL, cL, rfl, hown⟩ := owns_form hown
 have HO := Lib.hid hown
 have HBE := Lib.hid hbel
 have hsz := hbel.size
 by_cases hlt : k < n
 ·clear hown hbel
  go_wp2_with ((at_builtin; refine wpList_app el_intG rfl _ _ rfl w.heap.size _ _ _ rfl HO.out [.int .i64 (f + (k : Int))] rfl rfl rfl (one1 rfl) (by omega) hsz ?_; intro v2 w2 ho hk2 hm2))
  have HO2 := Lib.hid (show w2.ownsRow w.heap.size 3 1 v2 (k + 1) (ints ((List.range (k + 1)).map fun i : Nat => f + (i : Int))) from by rw [rm_succ, ints_app]; exact ho)
  have HB2 := Lib.hid (below_kept HBE.out hk2 (fun q hq => (HO.out.lt q hq).1) hsz)
  clear ho hk2 hm2
  go_wp2_with fail
  go_roundw
  case rel => exact ⟨k + 1, by omega, by go_num, HO2.out, HB2.out⟩
  case measure => simp [intOf]; omega
 obtain rfl : n = k := by omega
 clear hown hbel
 go_wp2_with fail
 go_ret
 exact ⟨_, rfl, HO.out, HBE.out⟩

theorem l4Roots_any (f : Int) (n : Nat) (w : World) (hf : -1000000 ≤ f ∧ f ≤ 1000000) (hn : n ≤ 1000000) :
  Calls Tryz.prog 247 #[.int .i64 f, .int .i64 (n : Int)] w fun e w' => ∃ u, e = .returned u ∧ w'.ownsRow w.heap.size 3 1 u n (ints (rootsL f (n : Int))) ∧ Below w.heap.size w w' := by
 rw [rootsL_nat]
 go_enter Tryz.func247, Tryz.ntmps247
 go_wp2_with fail
 go_loopw [5, 6] (fun v i wr => ∃ k : Nat, k ≤ n ∧ i = .int .i64 k ∧ wr.ownsRow w.heap.size 3 1 v k (ints ((List.range k).map fun i : Nat => -1 - f - (i : Int))) ∧ Below w.heap.size w wr)
  (fun v i _ => n - (intOf i).toNat)
 case atStart => exact ⟨0, Nat.zero_le _, rfl, (made_rowG w 3), (Below.refl _ _).alloc (Nat.le_refl _) _⟩
 obtain ⟨k, hk, rfl, hown, hbel⟩ := hrel
 obtain ⟨AL, cL, rfl, hown⟩ := owns_form hown
 have HO := Lib.hid hown
 have HBE := Lib.hid hbel
 have hsz := hbel.size
 by_cases hlt : k < n
 ·clear hown hbel
  go_wp2_with ((at_builtin; refine wpList_app el_intG rfl _ _ rfl w.heap.size _ _ _ rfl HO.out [.int .i64 (-1 - f - (k : Int))] rfl rfl rfl (one1 rfl) (by omega) hsz ?_; intro v2 w2 ho hk2 hm2))
  have HO2 := Lib.hid (show w2.ownsRow w.heap.size 3 1 v2 (k + 1) (ints ((List.range (k + 1)).map fun i : Nat => -1 - f - (i : Int))) from by rw [rm_succ, ints_app]; exact ho)
  have HB2 := Lib.hid (below_kept HBE.out hk2 (fun q hq => (HO.out.lt q hq).1) hsz)
  clear ho hk2 hm2
  go_wp2_with fail
  go_roundw
  case rel => exact ⟨k + 1, by omega, by go_num, HO2.out, HB2.out⟩
  case measure => simp [intOf]; omega
 obtain rfl : n = k := by omega
 clear hown hbel
 go_wp2_with fail
 go_ret
 exact ⟨_, rfl, HO.out, HBE.out⟩

theorem l4Named_any (A B : Option Addr) (c d : Nat) (names outer : List ByteArray) (e0 : Int) (w : World) (he : -1000000 ≤ e0 ∧ e0 ≤ 1000000) (hn : names.length ≤ 1000) (ho : outer.length ≤ 1000) (hA : Cells w A (strs names)) (hB : Cells w B (strs outer)) :
  Calls Tryz.prog 225 #[.slice A names.length c, .int .i64 e0, .slice B outer.length d] w fun e w' => ∃ u, e = .returned u ∧ w'.ownsRow w.heap.size 3 1 u names.length (ints (namedS names e0 outer)) ∧ Below w.heap.size w w' := by
 have HA := Lib.hid (show ∀ W, Below w.heap.size w W → Cells W A (strs names) from fun W hb => hA.below hb)
 have HB := Lib.hid (show ∀ W, Below w.heap.size w W → Cells W B (strs outer) from fun W hb => hB.below hb)
 rw [show namedS names e0 outer = (List.range names.length).map fun i : Nat => e0 + atS outer (names.getD i default) from map_getD default (fun s => e0 + atS outer s) names]
 clear hA hB
 go_enter Tryz.func225, Tryz.ntmps225
 go_wp2_with fail
 go_loopw [7, 8] (fun v i wr => ∃ k : Nat, k ≤ names.length ∧ i = .int .i64 k ∧ wr.ownsRow w.heap.size 3 1 v k (ints ((List.range k).map fun i : Nat => e0 + atS outer (names.getD i default))) ∧ Below w.heap.size w wr)
  (fun v i _ => names.length - (intOf i).toNat)
 case atStart => exact ⟨0, Nat.zero_le _, rfl, (made_rowG w 3), (Below.refl _ _).alloc (Nat.le_refl _) _⟩
 obtain ⟨k, hk, rfl, hown, hbel⟩ := hrel
 obtain ⟨AL, cL, rfl, hown⟩ := owns_form hown
 have HO := Lib.hid hown
 have HBE := Lib.hid hbel
 have hsz := hbel.size
 by_cases hlt : k < names.length
 ·obtain ⟨b, o, rfl, hc⟩ := (HA.out wr hbel).str hlt
  have k0 := hc k hlt
  obtain ⟨s, hs⟩ : ∃ s, s = names.getD k default := ⟨_, rfl⟩
  rw [← hs] at k0
  have HSE := Lib.hid hs
  have HAT := Lib.hid (l2At_any B d outer s wr (by omega) (HB.out wr hbel))
  have har := atS_range outer s
  obtain ⟨y, hy⟩ : ∃ y, y = atS outer s := ⟨_, rfl⟩
  rw [← hy] at har HAT
  have HY := Lib.hid hy
  clear hown hbel hc hs hy
  go_wp2_with (first | ((with_reducible refine HAT.out.mono ?_); rintro e w' ⟨rfl, rfl⟩) | (at_builtin; refine wpList_app el_intG rfl _ _ rfl w.heap.size _ _ _ rfl HO.out [.int .i64 (e0 + y)] rfl rfl rfl (one1 rfl) (by omega) hsz ?_; intro v2 w2 ho hk2 hm2))
  have HO2 := Lib.hid (show w2.ownsRow w.heap.size 3 1 v2 (k + 1) (ints ((List.range (k + 1)).map fun i : Nat => e0 + atS outer (names.getD i default))) from by rw [rm_succ, ints_app, ← HSE.out, ← HY.out]; exact ho)
  have HB2 := Lib.hid (below_kept HBE.out hk2 (fun q hq => (HO.out.lt q hq).1) hsz)
  clear ho hk2 hm2
  go_wp2_with fail
  go_roundw
  case rel => exact ⟨k + 1, by omega, by go_num, HO2.out, HB2.out⟩
  case measure => simp [intOf]; omega
 obtain rfl : k = names.length := by omega
 clear hown hbel
 go_wp2_with fail
 go_ret
 exact ⟨_, rfl, HO.out, HBE.out⟩

theorem l4Parent_any (p by_ : Int) (A : Option Addr) (c : Nat) (ps : List Int) (w : World) (hp : -1000000 ≤ p ∧ p ≤ 1000000) (hb : -1000000 ≤ by_ ∧ by_ ≤ 1000000) (hl : p < 0 → -1 - p < ps.length) (hA : Cells w A (ints ps)) :
  Calls Tryz.prog 164 #[.int .i64 p, .int .i64 by_, .slice A ps.length c] w fun e w' => e = .returned (.int .i64 (parentS by_ ps p)) ∧ w = w' := by
 by_cases h : p < 0
 ·have HE := Lib.hid (show parentS by_ ps p = ps.getD (-1 - p).toNat 0 from by unfold parentS; rw [if_pos h]; rfl)
  obtain ⟨k, hk⟩ := Int.eq_ofNat_of_zero_le (show 0 ≤ -1 - p by omega)
  have hkl : k < ps.length := by have := hl h; omega
  obtain ⟨b, o, rfl, hc⟩ := hA.int hkl
  have k0 := hc k hkl
  rw [hk, Int.toNat_natCast] at HE
  obtain ⟨y, hy⟩ : ∃ y, y = ps.getD k 0 := ⟨_, rfl⟩
  rw [← hy] at k0 HE
  have hk0 : (0 : Int) ≤ (k : Int) := by omega
  have hk1 : (k : Int) < (ps.length : Int) := by omega
  clear hc hA hy hl
  go_enter Tryz.func164, Tryz.ntmps164
  go_wp2_with fail
  go_ret
  exact ⟨by rw [HE.out]; rfl, rfl⟩
 have HE := Lib.hid (show parentS by_ ps p = p + by_ from by unfold parentS; rw [if_neg h])
 clear hA hl
 go_enter Tryz.func164, Tryz.ntmps164
 go_wp2_with fail
 go_ret
 exact ⟨by rw [HE.out]; rfl, rfl⟩

theorem l4Sites_any (g : Gr) (nv sv ov iv : Value) (by_ : Int) (A : Option Addr) (c : Nat) (ps : List Int) (w : World) (hs : SmallG g) (hb : -1000000 ≤ by_ ∧ by_ ≤ 1000000) (hl : ∀ p ∈ g.sites, (-1000000 ≤ p ∧ p ≤ 1000000) ∧ (p < 0 → -1 - p < ps.length)) (hA : Cells w A (ints ps)) (hG : RGr w nv sv ov iv g) :
  Calls Tryz.prog 165 #[.agg #[.int .i64 g.roots, nv, sv, .int .i64 g.edges, ov, iv], .int .i64 by_, .slice A ps.length c] w fun e w' => ∃ u, e = .returned u ∧ w'.ownsRow w.heap.size 3 1 u g.sites.length (ints (g.sites.map (parentS by_ ps))) ∧ Below w.heap.size w w' := by
 have HA := Lib.hid (show ∀ W, Below w.heap.size w W → Cells W A (ints ps) from fun W hb => hA.below hb)
 have HSM := Lib.hid hs
 have HL := Lib.hid hl
 have hsl := hs.sites
 have HG := Lib.hid (show ∀ W, Below w.heap.size w W → RGr W nv sv ov iv g from fun W hb => hG.below hb)
 obtain ⟨AN, cN, AS, cS, AO, cO, AI, cI, rfl, rfl, rfl, rfl⟩ := hG.form
 obtain ⟨w0, hw0, hb0, hs0, bx0⟩ := laid1 w (.cells #[.int .i64 g.roots, .slice AN g.nodes.length cN, .slice AS g.sites.length cS, .int .i64 g.edges, .slice AO g.outer.length cO, .slice AI g.inner.length cI] 31)
 have HX := Lib.hid (keepB bx0)
 have HB0 := Lib.hid hb0
 have HW0 := Lib.hid hw0
 rw [show g.sites.map (parentS by_ ps) = (List.range g.sites.length).map fun i : Nat => parentS by_ ps (g.sites.getD i 0) from map_getD 0 _ _]
 clear hA hs hl hG hb0 hw0 bx0
 go_enter Tryz.func165, Tryz.ntmps165
 go_wp2_with (rw [← HW0.out])
 go_loopw [7, 8] (fun v i wr => ∃ k : Nat, k ≤ g.sites.length ∧ i = .int .i64 k ∧ wr.ownsRow w0.heap.size 3 1 v k (ints ((List.range k).map fun i : Nat => parentS by_ ps (g.sites.getD i 0))) ∧ Below w0.heap.size w0 wr)
  (fun v i _ => g.sites.length - (intOf i).toNat)
 case atStart => exact ⟨0, Nat.zero_le _, rfl, (by have h := made_rowG w0 3; rw [hs0] at h ⊢; exact h), (Below.refl _ _).alloc (Nat.le_refl _) _⟩
 obtain ⟨k, hk, rfl, hown, hbel⟩ := hrel
 obtain ⟨AL, cL, rfl, hown⟩ := owns_form hown
 have HO := Lib.hid hown
 have HBE := Lib.hid hbel
 have hsz := hbel.size
 obtain ⟨x0, x1, x2, x3, x4, x5⟩ := row6 (HX.out wr hbel)
 by_cases hlt : k < g.sites.length
 ·have hbw := HB0.out.trans (hbel.mono HB0.out.size)
  obtain ⟨A', c', eS, hcS⟩ := (HG.out wr hbw).s
  cases eS
  obtain ⟨b, o, rfl, hc⟩ := hcS.int hlt
  have k0 := hc k hlt
  obtain ⟨p, hp⟩ : ∃ p, p = g.sites.getD k 0 := ⟨_, rfl⟩
  rw [← hp] at k0
  have hpm : p ∈ g.sites := by rw [hp]; exact List.mem_of_getElem? (getD_lt hlt)
  have hpb := (HL.out p hpm).1
  have HPE := Lib.hid hp
  have HPA := Lib.hid (l4Parent_any p by_ A c ps wr hpb hb (HL.out p hpm).2 (HA.out wr hbw))
  obtain ⟨y, hy⟩ : ∃ y, y = parentS by_ ps p := ⟨_, rfl⟩
  rw [← hy] at HPA
  have HY := Lib.hid hy
  have hk1 : (k : Int) < (g.sites.length : Int) := by omega
  clear hown hbel hc hp hy hcS hbw hpm hpb
  go_wp2_with (first | ((with_reducible refine HPA.out.mono ?_); rintro e w' ⟨rfl, rfl⟩) | (at_builtin; refine wpList_app el_intG rfl _ _ rfl w0.heap.size _ _ _ rfl HO.out [.int .i64 (y)] rfl rfl rfl (one1 rfl) (by omega) hsz ?_; intro v2 w2 ho hk2 hm2))
  have HO2 := Lib.hid (show w2.ownsRow w0.heap.size 3 1 v2 (k + 1) (ints ((List.range (k + 1)).map fun i : Nat => parentS by_ ps (g.sites.getD i 0))) from by rw [rm_succ, ints_app, ← HPE.out, ← HY.out]; exact ho)
  have HB2 := Lib.hid (below_kept HBE.out hk2 (fun q hq => (HO.out.lt q hq).1) hsz)
  clear ho hk2 hm2
  go_wp2_with fail
  go_roundw
  case rel => exact ⟨k + 1, by omega, by go_num, HO2.out, HB2.out⟩
  case measure => simp [intOf]; omega
 obtain rfl : k = g.sites.length := by omega
 clear hown hbel
 go_wp2_with fail
 go_ret
 exact ⟨_, rfl, owns_mono HO.out (by omega), HB0.out.trans (HBE.out.mono HB0.out.size)⟩

theorem l4Wires_any (g : Gr) (nv sv ov iv : Value) (A : Option Addr) (c : Nat) (links : List Int) (w : World) (hs : SmallG g) (hl : ∀ x ∈ g.inner, 0 ≤ x.2 ∧ x.2 < links.length) (hA : Cells w A (ints links)) (hll : links.length ≤ 1000000) (hG : RGr w nv sv ov iv g) :
  Calls Tryz.prog 249 #[.agg #[.int .i64 g.roots, nv, sv, .int .i64 g.edges, ov, iv], .slice A links.length c] w fun e w' => ∃ u, e = .returned u ∧ w'.ownsRow w.heap.size 90 2 u g.inner.length ((wiresS g links).flatMap encWi) ∧ Below w.heap.size w w' := by
 have HA := Lib.hid (show ∀ W, Below w.heap.size w W → Cells W A (ints links) from fun W hb => hA.below hb)
 have HL := Lib.hid hl
 have hsl := hs.inner
 have HG := Lib.hid (show ∀ W, Below w.heap.size w W → RGr W nv sv ov iv g from fun W hb => hG.below hb)
 obtain ⟨AN, cN, AS, cS, AO, cO, AI, cI, rfl, rfl, rfl, rfl⟩ := hG.form
 obtain ⟨w0, hw0, hb0, hs0, bx0⟩ := laid1 w (.cells #[.int .i64 g.roots, .slice AN g.nodes.length cN, .slice AS g.sites.length cS, .int .i64 g.edges, .slice AO g.outer.length cO, .slice AI g.inner.length cI] 31)
 have HX := Lib.hid (keepB bx0)
 have HB0 := Lib.hid hb0
 have HW0 := Lib.hid hw0
 rw [show wiresS g links = (List.range g.inner.length).map (fun i : Nat => ((wiA g i).1, atI links (wiA g i).2)) from map_getD wi0 _ _]
 clear hA hs hl hG hb0 hw0 bx0
 go_enter Tryz.func249, Tryz.ntmps249
 go_wp2_with (rw [← HW0.out])
 go_loopw [5, 6] (fun v i wr => ∃ k : Nat, k ≤ g.inner.length ∧ i = .int .i64 k ∧ wr.ownsRow w0.heap.size 90 2 v k (((List.range k).map (fun i : Nat => ((wiA g i).1, atI links (wiA g i).2))).flatMap encWi) ∧ Below w0.heap.size w0 wr)
  (fun v i _ => g.inner.length - (intOf i).toNat)
 case atStart => exact ⟨0, Nat.zero_le _, rfl, (by have h := ownsNew w0 [] 90 2 0 rfl (by decide); rw [hs0] at h ⊢; exact h), (Below.refl _ _).alloc (Nat.le_refl _) _⟩
 obtain ⟨k, hk, rfl, hown, hbel⟩ := hrel
 obtain ⟨AL, cL, rfl, hown⟩ := owns_form hown
 have HO := Lib.hid hown
 have HBE := Lib.hid hbel
 have hsz0 := hbel.size
 obtain ⟨x0, x1, x2, x3, x4, x5⟩ := row6 (HX.out wr hbel)
 by_cases hlt : k < g.inner.length
 ·have hbw := HB0.out.trans (hbel.mono HB0.out.size)
  obtain ⟨b, o, c', eS, k0, k1⟩ := wi_at (HG.out wr hbw).i hlt
  cases eS
  have hmem := HL.out _ (List.getElem_mem hlt)
  obtain ⟨m, hm⟩ := Int.eq_ofNat_of_zero_le hmem.1
  have hml : m < links.length := by have := hmem.2; omega
  obtain ⟨b2, o2, rfl, hc2⟩ := (HA.out wr hbw).int hml
  obtain ⟨s, hs⟩ : ∃ s, s = g.inner[k].1 := ⟨_, rfl⟩
  obtain ⟨y, hy⟩ : ∃ y, y = links.getD m 0 := ⟨_, rfl⟩
  have HSE := Lib.hid (show (wiA g k).1 = s from by rw [hs]; unfold wiA; rw [show g.inner.getD k wi0 = g.inner[k] from by simp [List.getD, hlt]])
  have HME := Lib.hid (show g.inner[k].2 = (m : Int) from hm)
  have HYE := Lib.hid (show atI links (wiA g k).2 = y from by rw [hy]; unfold atI wiA; rw [show g.inner.getD k wi0 = g.inner[k] from by simp [List.getD, hlt], hm, Int.toNat_natCast])
  have HS1 := Lib.hid hs
  have HY1 := Lib.hid hy
  have hk1 : (k : Int) < (g.inner.length : Int) := by omega
  have hm0 : (0 : Int) ≤ (m : Int) := by omega
  have hm1 : (m : Int) < (links.length : Int) := by omega
  clear hown hbel hbw k0 k1 hmem hm hc2 hs hy x0 x1 x2 x3 x4
  go_wp2_with fail
  clear x5
  refine wp_region_x (by kernel_rfl) [some 15, some 16, some 17, some 18, some 19, some 20, some 21, some 22, some 23, some 24, some 25, some 26, some 27, some 28, some 29, some 30, some 31, some 32, some 33, some 5] [18] (fun q W W' => if q = 18 then Kept (fun b => ((Value.slice AL k cL)).ownBlock = some b) W W' else Below W.heap.size W W') (fun q v W => match q with | 0 => v = .slice AL k cL | 1 => v = .pointer (some ⟨w.heap.size, 5, none⟩) | 2 => v = .slice (some ⟨b, o, none⟩) g.inner.length cI | 3 => v = .int .i64 (k : Int) | 4 => v = .pointer (some ⟨b, o + k * 2, none⟩) | 5 => v = .pointer (some ⟨b, o + k * 2, none⟩) | 6 => v = .string s | 7 => v = .slice (some ⟨b2, o2, none⟩) links.length c | 8 => v = .pointer (some ⟨w.heap.size, 5, none⟩) | 9 => v = .slice (some ⟨b, o, none⟩) g.inner.length cI | 10 => v = .int .i64 (k : Int) | 11 => v = .pointer (some ⟨b, o + k * 2, none⟩) | 12 => v = .pointer (some ⟨b, o + k * 2 + 1, none⟩) | 13 => v = .int .i64 (m : Int) | 14 => v = .pointer (some ⟨b2, o2 + m, none⟩) | 15 => v = .int .i64 y | 16 => v = .agg #[.string s, .int .i64 y] | 17 => ∃ gz, v = .slice (some ⟨gz, 0, none⟩) 1 1 ∧ LitAt (wr.heap.size) W gz (.cells #[.string s, .int .i64 y] 90) | 18 => ∃ Ax cx, v = .slice Ax (k + 1) cx ∧ W.ownsRow w0.heap.size 90 2 (.slice Ax (k + 1) cx) (k + 1) (((List.range (k + 1)).map (fun i : Nat => ((wiA g i).1, atI links (wiA g i).2))).flatMap encWi) | 19 => ∃ Ax cx, v = .slice Ax (k + 1) cx ∧ W.ownsRow w0.heap.size 90 2 (.slice Ax (k + 1) cx) (k + 1) (((List.range (k + 1)).map (fun i : Nat => ((wiA g i).1, atI links (wiA g i).2))).flatMap encWi) | _ => True) (fun l W => match l with | [false] => Below wr.heap.size wr W | _ => Kept (fun b => ((Value.slice AL k cL)).ownBlock = some b) wr W) (by kernel_rfl) (by kernel_rfl) ?s1i ?r1e ?m1o (Below.refl _ _).drew ?s1t ?f1i
  case s1i => intro q W W' h; split at h <;> exact h.size
  case r1e => intro q W; split; exact Kept.refl _ _; exact Below.refl _ _
  case m1o =>
   intro e q v W W' hrc ht h
   have hk : Kept (fun b => b < wr.heap.size) W W' := by split at ht; exact ht.mono (fun b hb => ((HO.out).lt b hb).2); exact Kept.of_below ht _
   match e, h with
   | 0, h | 1, h | 2, h | 3, h | 4, h | 5, h | 6, h | 7, h | 8, h | 9, h | 10, h | 11, h | 12, h | 13, h | 14, h | 15, h | 16, h => exact h
   | 17, h => obtain ⟨x0, e, hr⟩ := h; exact ⟨x0, e, hr.kept hk⟩
   | 18, h => obtain ⟨x0, x1, e, hr⟩ := h; exact ⟨x0, x1, e, owns_below hr (by split at ht; (next hq => subst hq; rw [show reachB _ _ 18 18 = true from by kernel_rfl] at hrc; cases hrc); exact ht) (Nat.le_refl _)⟩
   | 19, h => obtain ⟨x0, x1, e, hr⟩ := h; exact ⟨x0, x1, e, owns_below hr (by split at ht; (next hq => subst hq; rw [show reachB _ _ 19 18 = true from by kernel_rfl] at hrc; cases hrc); exact ht) (Nat.le_refl _)⟩
   | q + 20, _ => trivial
  case s1t =>
   as_aux_lemma =>
   intro L act W q o h ho K3 hS hK
   match q, ho with
   | 0, ho =>
    cases ho
    have a5 : act.tmps[5]? = some _ := h.old 19 rfl (h.off 19 (by kernel_rfl))
    clear h hK
    go_simp
    exact hS rfl _ rfl
   | 1, ho | 8, ho =>
    cases ho
    have a2 : act.tmps[2]? = some _ := h.out 2 (by decide)
    clear h hK
    go_simp
    exact hS rfl _ rfl
   | 2, ho =>
    cases ho
    have v1 := h.val 1 rfl rfl fun _ h => h
    have hsz := h.size
    have hD := h.d
    have hn := h.off 18 (by kernel_rfl)
    simp only [List.map_cons, List.map_nil, hn] at hD
    have hbW := HBE.out.trans (hD.mono HBE.out.size)
    obtain ⟨_, _, _, _, _, x5⟩ := row6 (HX.out W hbW)
    clear hbW
    have HD := Lib.hid hD
    clear hD h hK
    go_simp
    exact hS rfl _ rfl
   | 3, ho | 10, ho =>
    cases ho
    have a6 : act.tmps[6]? = some _ := h.out 6 (by decide)
    clear h hK
    go_simp
    exact hS rfl _ rfl
   | 4, ho =>
    cases ho
    have v2 := h.val 2 rfl rfl fun _ h => h
    have v3 := h.val 3 rfl rfl fun _ h => h
    clear h hK
    go_simp
    exact hS rfl _ rfl
   | 5, ho =>
    cases ho
    have v4 := h.val 4 rfl rfl fun _ h => h
    clear h hK
    go_simp
    exact hS rfl _ rfl
   | 6, ho =>
    cases ho
    have v5 := h.val 5 rfl rfl fun _ h => h
    have hsz := h.size
    have hD := h.d
    have hn := h.off 18 (by kernel_rfl)
    simp only [List.map_cons, List.map_nil, hn] at hD
    have hbW := HB0.out.trans ((HBE.out.trans (hD.mono HBE.out.size)).mono HB0.out.size)
    obtain ⟨b', o', c', eS, k0, k1⟩ := wi_at (HG.out W hbW).i hlt
    cases eS
    rw [← HS1.out] at k0
    clear hbW k1
    have HD := Lib.hid hD
    clear hD h hK
    go_simp
    exact hS rfl _ rfl
   | 7, ho =>
    cases ho
    have a1 : act.tmps[1]? = some _ := h.out 1 (by decide)
    clear h hK
    go_simp
    exact hS rfl _ rfl
   | 9, ho =>
    cases ho
    have v8 := h.val 8 rfl rfl fun _ h => h
    have hsz := h.size
    have hD := h.d
    have hn := h.off 18 (by kernel_rfl)
    simp only [List.map_cons, List.map_nil, hn] at hD
    have hbW := HBE.out.trans (hD.mono HBE.out.size)
    obtain ⟨_, _, _, _, _, x5⟩ := row6 (HX.out W hbW)
    clear hbW
    have HD := Lib.hid hD
    clear hD h hK
    go_simp
    exact hS rfl _ rfl
   | 11, ho =>
    cases ho
    have v9 := h.val 9 rfl rfl fun _ h => h
    have v10 := h.val 10 rfl rfl fun _ h => h
    clear h hK
    go_simp
    exact hS rfl _ rfl
   | 12, ho =>
    cases ho
    have v11 := h.val 11 rfl rfl fun _ h => h
    clear h hK
    go_simp
    exact hS rfl _ rfl
   | 13, ho =>
    cases ho
    have v12 := h.val 12 rfl rfl fun _ h => h
    have hsz := h.size
    have hD := h.d
    have hn := h.off 18 (by kernel_rfl)
    simp only [List.map_cons, List.map_nil, hn] at hD
    have hbW := HB0.out.trans ((HBE.out.trans (hD.mono HBE.out.size)).mono HB0.out.size)
    obtain ⟨b', o', c', eS, k0, k1⟩ := wi_at (HG.out W hbW).i hlt
    cases eS
    rw [HME.out] at k1
    clear hbW k0
    have HD := Lib.hid hD
    clear hD h hK
    go_simp
    exact hS rfl _ rfl
   | 14, ho =>
    cases ho
    have v7 := h.val 7 rfl rfl fun _ h => h
    have v13 := h.val 13 rfl rfl fun _ h => h
    clear h hK
    go_simp
    exact hS rfl _ rfl
   | 15, ho =>
    cases ho
    have v14 := h.val 14 rfl rfl fun _ h => h
    have hsz := h.size
    have hD := h.d
    have hn := h.off 18 (by kernel_rfl)
    simp only [List.map_cons, List.map_nil, hn] at hD
    have hbW := HB0.out.trans ((HBE.out.trans (hD.mono HBE.out.size)).mono HB0.out.size)
    obtain ⟨b', o', eS, hc⟩ := (HA.out W hbW).int hml
    cases eS
    have k0 := hc m hml
    rw [← HY1.out] at k0
    clear hbW hc
    have HD := Lib.hid hD
    clear hD h hK
    go_simp
    exact hS rfl _ rfl
   | 16, ho =>
    cases ho
    have v6 := h.val 6 rfl rfl fun _ h => h
    have v15 := h.val 15 rfl rfl fun _ h => h
    clear h hK
    go_simp
    exact hS rfl _ rfl
   | 17, ho =>
    cases ho
    have v16 := h.val 16 rfl rfl fun _ h => h
    have hsz := h.size
    have hD := h.d
    have hn := h.off 18 (by kernel_rfl)
    simp only [List.map_cons, List.map_nil, hn] at hD
    have HD := Lib.hid hD
    clear hD h hS
    go_simp
    exact hK _ _ ((Below.refl _ _).alloc (Nat.le_refl _) _) ⟨_, rfl, .new hsz⟩ (show (match [upd L 17 18] with | [false] => Below wr.heap.size wr _ | _ => Kept (fun b => ((Value.slice AL k cL)).ownBlock = some b) wr _) from by rw [show upd L 17 18 = false from hn]; exact HD.out.alloc hsz _)
   | 18, ho =>
    cases ho
    have v0 := h.val 0 rfl rfl fun _ h => h
    obtain ⟨_, v17, gz17, rfl, hr17⟩ := h.has 17 rfl rfl
    have hsz := h.size
    have hD := h.d
    have hn := h.off 18 (by kernel_rfl)
    simp only [List.map_cons, List.map_nil, hn] at hD
    clear h hS
    have hg2 := hr17.at_
    have hown := owns_below (HO.out) hD (Nat.le_refl _)
    refine step_appM el_wireG rfl (.tmp 15) (.tmp 32) rfl w0.heap.size ((.slice AL k cL)) k (((List.range k).map (fun i : Nat => ((wiA g i).1, atI links (wiA g i).2))).flatMap encWi) (by simp [Act.eval, *]) hown ⟨gz17, 0, none⟩ 1 1 [.string s, .int .i64 y] (by simp [Act.eval, *]) (by decide) rfl (fun j' u' hj' => by rw [show (⟨gz17, 0, none⟩ : Addr).add j' = ⟨gz17, j', none⟩ from by simp [Addr.add, eq_comm], cell_of_row W gz17 _ _ _ _ hg2]; simpa using hj') (wi_one _ _) (by omega) (by omega) ?_
    intro v' W' ho hk hm
    obtain ⟨Ax, cx, rfl, ho⟩ := owns_form ho
    exact hK _ _ (show (if 18 = 18 then Kept (fun b => ((Value.slice AL k cL)).ownBlock = some b) W W' else _) from by rw [if_pos rfl]; exact hk) ⟨_, _, rfl, by rw [rm_succ, List.flatMap_append, HSE.out, HYE.out]; exact ho⟩ ((Kept.of_below hD _).trans hk)
   | 19, ho =>
    cases ho
    obtain ⟨_, v18, Ax18, cx18, rfl, hr18⟩ := h.has 18 rfl rfl
    clear h hK
    go_simp
    exact hS rfl _ ⟨_, _, rfl, hr18⟩
   | q + 20, ho => simp at ho
  intro V W hsW HD0 hV
  have v0 : V 0 = _ := hV 0 15 rfl
  have v1 : V 1 = _ := hV 1 16 rfl
  have v2 : V 2 = _ := hV 2 17 rfl
  have v3 : V 3 = _ := hV 3 18 rfl
  have v4 : V 4 = _ := hV 4 19 rfl
  have v5 : V 5 = _ := hV 5 20 rfl
  have v6 : V 6 = _ := hV 6 21 rfl
  have v7 : V 7 = _ := hV 7 22 rfl
  have v8 : V 8 = _ := hV 8 23 rfl
  have v9 : V 9 = _ := hV 9 24 rfl
  have v10 : V 10 = _ := hV 10 25 rfl
  have v11 : V 11 = _ := hV 11 26 rfl
  have v12 : V 12 = _ := hV 12 27 rfl
  have v13 : V 13 = _ := hV 13 28 rfl
  have v14 : V 14 = _ := hV 14 29 rfl
  have v15 : V 15 = _ := hV 15 30 rfl
  have v16 : V 16 = _ := hV 16 31 rfl
  obtain ⟨gz17, v17, hr17⟩ := hV 17 32 rfl
  obtain ⟨Ax18, cx18, v18, hr18⟩ := hV 18 33 rfl
  obtain ⟨Ax19, cx19, v19, hr19⟩ := hV 19 5 rfl
  have HKW := Lib.hid (show Kept (fun b => ((Value.slice AL k cL)).ownBlock = some b) wr W from HD0)
  clear hV HD0
  simp only [layV, List.setIfInBounds_toArray, List.set_cons_zero, List.set_cons_succ, v0, v1, v2, v3, v4, v5, v6, v7, v8, v9, v10, v11, v12, v13, v14, v15, v16, v17, v18, v19]
  clear v0 v1 v2 v3 v4 v5 v6 v7 v8 v9 v10 v11 v12 v13 v14 v15 v16 v17 v18 v19
  have HOWN := Lib.hid hr19
  go_wp2_with fail
  have HB2 := Lib.hid (below_kept HBE.out HKW.out (fun q hq => (HO.out.lt q hq).1) hsz0)
  go_roundw
  case rel => exact ⟨k + 1, by omega, by go_num, HOWN.out, HB2.out⟩
  case measure => simp [intOf]; omega
 obtain rfl : k = g.inner.length := by omega
 clear hown hbel x0 x1 x2 x3 x4
 go_wp2_with fail
 go_ret
 exact ⟨_, rfl, owns_mono HO.out (by omega), HB0.out.trans (HBE.out.mono HB0.out.size)⟩

end Go.Proofs.YtijkdpdmclkmlaaGreatDoor
