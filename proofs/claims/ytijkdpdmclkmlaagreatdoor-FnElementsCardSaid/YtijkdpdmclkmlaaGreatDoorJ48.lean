/- The laws' vCut: a suffix of a code, and a byte more, in new memory. The draw of a bigraph of some kind. The law of inverses walked: it answers true for each drawn bigraph. -/
import Derived.Test.YtijkdpdmclkmlaaGreatDoorProg
import Derived.Test.YtijkdpdmclkmlaaGreatDoorJ12
import Derived.Test.YtijkdpdmclkmlaaGreatDoorJ30
import Derived.Test.YtijkdpdmclkmlaaGreatDoorJ5
import Derived.Handy
import Derived.StillTailTactics
import Derived.Test.YtijkdpdmclkmlaaGreatDoorJ0
import Derived.Lib.SliceRun
import Derived.Laws.AppendOwnNone
import Derived.Test.YtijkdpdmclkmlaaGreatDoorJ2
import Derived.Test.YtijkdpdmclkmlaaGreatDoorJ18
import Derived.Test.YtijkdpdmclkmlaaGreatDoorJ4
import Derived.Test.YtijkdpdmclkmlaaGreatDoorJ16
import Derived.Deep.CutBlock
import Derived.Test.YtijkdpdmclkmlaaGreatDoorJ21
import Derived.Test.YtijkdpdmclkmlaaGreatDoorJ3
import Derived.BigQuiet
import Derived.Test.YtijkdpdmclkmlaaGreatDoorJ20
import Derived.Test.YtijkdpdmclkmlaaGreatDoorJ6
import Derived.IntWalk
import Derived.Test.YtijkdpdmclkmlaaGreatDoorJ47
import Derived.Test.YtijkdpdmclkmlaaGreatDoorJ46
import Derived.Test.YtijkdpdmclkmlaaGreatDoorJ35
import Derived.Test.YtijkdpdmclkmlaaGreatDoorJ29
import Derived.Test.YtijkdpdmclkmlaaGreatDoorJ9
set_option linter.unusedSimpArgs false
set_option linter.unusedVariables false
set_option maxRecDepth 100000
set_option maxHeartbeats 16000000
namespace Go.Proofs.YtijkdpdmclkmlaaGreatDoor
open Go.RowKit
theorem info_u8 : (Tryz.prog.info? 5).map (fun i => (i.zero, i.size, i.bytes)) = some (some (.int .u8 0), 1, 1) := by kernel_rfl
theorem u8s_one (bs : List Int) : ∀ y ∈ u8s bs, y.oneCell' = true := fun y hy => by
  obtain ⟨x, _, rfl⟩ := List.mem_map.1 hy; rfl
theorem vcut_fin {w W1 : World} (hW : W1 = w.alloc (.cells #[] 5)) (x : Int) (Z : Array Value) (t : TypeId) :
    Cells ((W1.alloc (.cells #[.int .u8 x] t)).alloc (.cells (#[.int .u8 x] ++ Z) t)).drew (some ⟨w.heap.size + 1 + 1, 0, none⟩) (u8s [x]) ∧ Below w.heap.size w ((W1.alloc (.cells #[.int .u8 x] t)).alloc (.cells (#[.int .u8 x] ++ Z) t)).drew := by
  have hs : W1.heap.size = w.heap.size + 1 := by rw [hW]; simp
  have hb : Below w.heap.size w W1 := by rw [hW]; exact (Below.refl _ _).alloc (Nat.le_refl _) _
  refine ⟨fun j u hj => ?_, ((hb.alloc (by omega) _).alloc (by simp; omega) _).drew⟩
  match j, hj with
  | 0, hj =>
    simp [u8s] at hj
    subst hj
    refine ⟨_, _, rfl, ?_⟩
    have h := heap_alloc_new (W1.alloc (.cells #[.int .u8 x] t)) (.cells (#[.int .u8 x] ++ Z) t)
    rw [World.size_alloc, hs] at h
    exact (cell_of_row _ (w.heap.size + 1 + 1) 0 _ _ _ h).trans (by rw [Array.getElem?_append_left (by simp)]; rfl)

set_option maxRecDepth 100000 in
set_option maxHeartbeats 4000000 in
theorem vCut_any (A : Option Addr) (bs : List Int) (c n : Nat) (w : World) (hA : Cells w A (u8s bs)) (hrng : ∀ x ∈ bs, 0 ≤ x ∧ x < 256) (hc : bs.length ≤ c) (hlen : bs.length ≤ 1000000) (hn : n ≤ 200) :
    Calls Tryz.prog 15 #[.slice A bs.length c, .int .i64 n] w fun e w' => ∃ A' c' bs', e = .returned (.slice A' bs'.length c') ∧ Cells w' A' (u8s bs') ∧ (∀ x ∈ bs', 0 ≤ x ∧ x < 256) ∧ bs'.length ≤ bs.length + 1 ∧ Below w.heap.size w w' := by
  obtain ⟨i0, hi, hz0, hz1, hz2⟩ := info_parts info_u8
  obtain ⟨W1, hW1⟩ : ∃ W1, W1 = w.alloc (.cells #[] 5) := ⟨_, rfl⟩
  have HF := Lib.hid (fun x Z => vcut_fin hW1 x Z 5)
  by_cases hge : bs.length ≤ n
  · have HW1 := Lib.hid hW1
    have hAn : A = none → bs.length = 0 := fun e => by
      cases bs with
      | nil => rfl
      | cons x r => obtain ⟨b, o, e', _⟩ := hA 0 (.int .u8 x) rfl; rw [e] at e'; cases e'
    generalize bs.length = m at *
    clear hA hW1 hrng
    cases A with
    | none =>
      obtain rfl : m = 0 := hAn rfl
      by_cases hlt : 0 < n
      · have hlt' : (0 : Int) < (n : Int) := by omega
        go_enter Tryz.func15, Tryz.ntmps15
        go_wp2_with fail
        go_ret
        rw [← HW1.out]
        exact ⟨_, _, [0], rfl, (HF.out 0 _).1, (fun y hy => by simp at hy; subst hy; omega), by simp, (HF.out 0 _).2⟩
      obtain rfl : n = 0 := by omega
      go_enter Tryz.func15, Tryz.ntmps15
      go_wp2_with fail
      go_ret
      rw [← HW1.out]
      exact ⟨_, _, [0], rfl, (HF.out 0 _).1, (fun y hy => by simp at hy; subst hy; omega), by simp, (HF.out 0 _).2⟩
    | some ad =>
      clear hAn
      by_cases hlt : m < n
      · have hlt' : (m : Int) < (n : Int) := by omega
        by_cases hcm : m = c
        · subst hcm
          go_enter Tryz.func15, Tryz.ntmps15
          go_wp2_with fail
          go_ret
          rw [← HW1.out]
          exact ⟨_, _, [(m : Int)], rfl, (HF.out (m : Int) _).1, (fun y hy => by simp at hy; subst hy; omega), by simp, (HF.out (m : Int) _).2⟩
        have hcm' : ¬ (m : Int) = (c : Int) := by omega
        have hc' : (m : Int) ≤ (c : Int) := by omega
        go_enter Tryz.func15, Tryz.ntmps15
        go_wp2_with fail
        all_goals
          go_ret
          rw [← HW1.out]
          exact ⟨_, _, [(m : Int)], rfl, (HF.out (m : Int) _).1, (fun y hy => by simp at hy; subst hy; omega), by simp, (HF.out (m : Int) _).2⟩
      obtain rfl : m = n := by omega
      by_cases hcm : m = c
      · subst hcm
        go_enter Tryz.func15, Tryz.ntmps15
        go_wp2_with fail
        go_ret
        rw [← HW1.out]
        exact ⟨_, _, [(m : Int)], rfl, (HF.out (m : Int) _).1, (fun y hy => by simp at hy; subst hy; omega), by simp, (HF.out (m : Int) _).2⟩
      have hcm' : ¬ (m : Int) = (c : Int) := by omega
      have hc' : (m : Int) ≤ (c : Int) := by omega
      go_enter Tryz.func15, Tryz.ntmps15
      go_wp2_with fail
      all_goals
        go_ret
        rw [← HW1.out]
        exact ⟨_, _, [(m : Int)], rfl, (HF.out (m : Int) _).1, (fun y hy => by simp at hy; subst hy; omega), by simp, (HF.out (m : Int) _).2⟩
  have hgt : n < bs.length := by omega
  have hlt' : ¬ (bs.length : Int) < (n : Int) := by omega
  have hn1 : (n : Int) < (bs.length : Int) := by omega
  have hn2 : (n : Int) < (c : Int) := by omega
  have hcn : ¬ n = c := by omega
  obtain ⟨ad, rfl⟩ : ∃ ad, A = some ad := by
    cases bs with
    | nil => simp at hgt
    | cons x r => obtain ⟨b, o, e', _⟩ := hA 0 (.int .u8 x) rfl; exact ⟨_, e'⟩
  have hb1 : Below w.heap.size w W1 := by rw [hW1]; exact (Below.refl _ _).alloc (Nat.le_refl _) _
  have HO1 := Lib.hid (show W1.ownsRow w.heap.size 5 1 (.slice (some ⟨w.heap.size, 0, none⟩) 0 0) 0 [] by rw [hW1]; exact World.ownsRow_made w #[] 0 (Nat.le_refl _) (Nat.zero_le _) rfl)
  have HB1 := Lib.hid hb1
  have hs1 : W1.heap.size = w.heap.size + 1 := by rw [hW1]; simp
  have HCC := Lib.hid (show ∀ j u, (u8s (bs.drop n))[j]? = some u → W1.cell? ((ad.add n).add j) = some u from fun j u hj => by
    have hj' : (u8s bs)[n + j]? = some u := by
      have e : u8s (bs.drop n) = (u8s bs).drop n := by simp [u8s, List.map_drop]
      rw [e, List.getElem?_drop] at hj; exact hj
    obtain ⟨b, o, e, h⟩ := (hA.below hb1) _ _ hj'
    cases e
    rw [Addr.add_lit, Addr.add_lit, Nat.add_assoc]; exact h)
  have HW1 := Lib.hid hW1
  clear hW1 hb1 hA hge
  go_enter Tryz.func15, Tryz.ntmps15
  have e0 : (bs.drop n).length ≤ 1000000 := by simp; omega
  have e1 : (bs.drop n).length ≤ bs.length := by simp
  have HE := Lib.hid (show ∀ x ∈ bs.drop n, 0 ≤ x ∧ x < 256 from fun x hx => hrng x (List.mem_of_mem_drop hx))
  have HLE := Lib.hid (show bs.length - n = (bs.drop n).length by simp)
  generalize bs.drop n = r at *
  go_wp2_with (first
    | (at_builtin; refine wpList_append_own _ rfl (.tmp 11) (.tmp 14) 22 rfl w.heap.size 5 i0 (.int .u8 0) 1 1 Tryz.underlying22 hi hz0 hz1 hz2 rfl (by decide) _ _ _ rfl (HW1.out ▸ HO1.out) (ad.add n) (bs.length - n) (c - n) (u8s r) rfl (by simp [HLE.out]) (HW1.out ▸ HCC.out) (u8s_one _) (by unfold maxLen; omega) (by omega) (by rw [← HW1.out]; omega) ?_; intro v2 w2 hown2 hgrow2 _; rw [← HW1.out] at hgrow2; rw [show 0 + (bs.length - n) = r.length by rw [HLE.out]; omega, List.nil_append] at hown2; have hb2 := HB1.out.grown hgrow2 HB1.out.size (fun q hq => (HO1.out.lt q hq).1); have HO2 := Lib.hid hown2; have HB2 := Lib.hid hb2; have hs2 := hb2.size; clear hown2 hgrow2 hb2; have hb3 := (Below.refl w2.heap.size w2).alloc (Nat.le_refl _) (.cells #[.int .u8 (n : Int)] 5); have HB3 := Lib.hid (HB2.out.trans (hb3.mono HB2.out.size)); have HO3 := Lib.hid (HO2.out.alloc (.cells #[.int .u8 (n : Int)] 5)); have HC3 := Lib.hid (heap_alloc_new w2 (.cells #[.int .u8 (n : Int)] 5)); clear hb3)
    | (at_builtin; refine wpList_append_own _ rfl (.tmp 15) (.tmp 18) 22 rfl w.heap.size 5 i0 (.int .u8 0) 1 1 Tryz.underlying22 hi hz0 hz1 hz2 rfl (by decide) _ _ _ rfl HO3.out ⟨w2.heap.size, 0, none⟩ 1 1 [.int .u8 (n : Int)] rfl rfl (fun j' u' hj' => by match j', hj' with | 0, hj' => (simp at hj'; subst hj'; exact cell_of_row _ w2.heap.size _ _ _ _ HC3.out)) (fun u' hu' => by simp at hu'; subst hu'; rfl) (by unfold maxLen; omega) (by omega) (by simp; omega) ?_; intro v4 w4 hown4 hgrow4 _)
    | fail)
  have hb4 := HB3.out.grown hgrow4 HB3.out.size (fun q hq => (HO2.out.lt q hq).1)
  have hown4' : w4.ownsRow w.heap.size 5 1 v4 (r ++ [(n : Int)]).length (u8s (r ++ [(n : Int)])) := by simpa [u8s] using hown4
  obtain ⟨A', c', e4, h5⟩ := owns_form hown4'
  go_ret
  refine ⟨A', c', r ++ [(n : Int)], by rw [← e4]; rfl, Cells.of_owns h5, (fun y hy => by rcases List.mem_append.1 hy with h | h; exact HE.out y h; simp at h; subst h; omega), by simp; omega, hb4⟩

theorem small_places (r : Int) (ss : List Int) (hr : -1000 ≤ r ∧ r ≤ 1000) (hl : ss.length ≤ 1000) (hb : ∀ p ∈ ss, -9223372036854775808 ≤ p) : SmallG ⟨r, [], ss, 0, [], []⟩ :=
  { nodes := Nat.zero_le _, links := fun x hx => (nomatch hx), sites := hl, outer := Nat.zero_le _, onames := fun s hs => (nomatch hs), inner := Nat.zero_le _, inames := fun x hx => (nomatch hx), edges := by show (-1000 : Int) ≤ 0 ∧ (0 : Int) ≤ 1000; omega, roots := hr, pars := fun x hx => (nomatch hx), sits := hb }
theorem idG_small {n : Nat} {l : List ByteArray} (hn : n ≤ 1000) (hl : l.length ≤ 1000) (hz : ∀ s ∈ l, s.size ≤ 1000) : SmallG (idG n l) :=
  { nodes := Nat.zero_le _, links := fun x hx => (nomatch hx), sites := by show ((List.range n).map _).length ≤ 1000; rw [List.length_map, List.length_range]; exact hn, outer := hl, onames := hz
    inner := by show ((List.range l.length).map _).length ≤ 1000; rw [List.length_map, List.length_range]; exact hl
    inames := fun x hx => by
      obtain ⟨i, hi, rfl⟩ := List.mem_map.1 hx
      have hi2 := List.mem_range.1 hi
      exact hz _ (by simp [List.getD, hi2])
    edges := by show (-1000 : Int) ≤ 0 ∧ (0 : Int) ≤ 1000; omega, roots := by show -1000 ≤ ((n : Nat) : Int) ∧ ((n : Nat) : Int) ≤ 1000; omega, pars := fun x hx => (nomatch hx)
    sits := fun p hp => by
      obtain ⟨i, hi, rfl⟩ := List.mem_map.1 hp
      have hi2 := List.mem_range.1 hi
      omega }
theorem permG_small {t : List Int} (hl : t.length ≤ 1000) (hb : ∀ x ∈ t, -1000 ≤ x ∧ x ≤ 1000) : SmallG (permG t) :=
  small_places _ _ (by omega) (by rw [List.length_map]; exact hl) fun p hp => by
    obtain ⟨x, hx, rfl⟩ := List.mem_map.1 hp
    have := hb x hx
    omega
theorem mergeG_small {n : Nat} (hn : n ≤ 1000) : SmallG (mergeG n) :=
  small_places _ _ (by omega) (by rw [List.length_replicate]; exact hn) fun p hp => by
    have := (List.mem_replicate.1 hp).2
    omega
theorem zeroG_small : SmallG zeroG := small_places _ _ (by omega) (Nat.zero_le _) fun p hp => (nomatch hp)

theorem name_size {s : ByteArray} (h : nameB s = true) : s.size ≤ 4 := by
 unfold nameB at h
 simp only [Bool.and_eq_true] at h
 have := h.1
 unfold inB at this
 simp only [Bool.and_eq_true, decide_eq_true_eq] at this
 omega
/-- A valid bigraph is a small one. -/
theorem good_small {sig : List Ct} {g : Gr} (h : GoodP sig g) : SmallG g := by
 have hsz : ∀ l : List ByteArray, namesB l = true → l.length ≤ 16 ∧ ∀ s ∈ l, s.size ≤ 1000 := fun l hl => ⟨names_len hl, fun s hs => by
  obtain ⟨i, hi, rfl⟩ := List.getElem_of_mem hs
  have h1 := (names_at hl hi).1
  rw [show l.getD i default = l[i] from by simp [List.getD, hi]] at h1
  have := name_size h1
  omega⟩
 have ho := hsz _ h.on
 have hi := hsz _ h.inn
 have hil : (innerN g).length = g.inner.length := by unfold innerN; rw [List.length_map]
 refine { nodes := by have := h.n8; omega, links := fun x hx => ?_, sites := by have := h.s4; omega, outer := by omega, onames := ho.2, inner := by omega, inames := fun x hx => hi.2 _ (List.mem_map.2 ⟨x, hx, rfl⟩), edges := by have := h.e; omega, roots := by have := h.r; omega, pars := fun x hx => ?_, sits := fun p hp => ?_ }
 ·obtain ⟨i, hi, rfl⟩ := List.getElem_of_mem hx
  obtain ⟨hc, _, hp, _⟩ := h.nod i _ (List.getElem?_eq_getElem hi)
  have hs := h.sg
  unfold sigB at hs
  rw [Bool.and_eq_true] at hs
  have h2 := allR_get hs.2 (k := (g.nodes[i].1).toNat) (by omega)
  unfold ctB at h2
  simp only [Bool.and_eq_true] at h2
  have h3 := h2.1.1.2
  unfold inB at h3
  simp only [Bool.and_eq_true, decide_eq_true_eq] at h3
  unfold portsA at hp
  omega
 ·obtain ⟨i, hi, rfl⟩ := List.getElem_of_mem hx
  have hu := (h.nod i _ (List.getElem?_eq_getElem hi)).2.1
  have := h.r
  by_cases h0 : g.nodes[i].2.1 < 0
  ·have := hu.1 h0; omega
  omega
 have hu := h.sit p hp
 have := h.r
 by_cases h0 : p < 0
 ·have := hu.1 h0; omega
 omega
theorem comp_good_of {sig : List Ct} {a b : Gr} (h : compR sig a b = true) : GoodP sig (compG a b) := by
 unfold compR at h
 rw [Bool.and_eq_true] at h
 exact (good_iff sig _).1 h.2

end Go.Proofs.YtijkdpdmclkmlaaGreatDoor
