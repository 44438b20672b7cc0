/- The laws' vCut: a suffix of a code, and a byte more, in new memory. The draw of a bigraph of some kind. The law of elements walked: it answers true for each code. -/
import Derived.Test.YtijkdpdmclkmlaaGreatDoorProg
import Derived.Test.YtijkdpdmclkmlaaGreatDoorJ11
import Derived.Test.YtijkdpdmclkmlaaGreatDoorJ31
import Derived.Test.YtijkdpdmclkmlaaGreatDoorJ5
import Derived.Handy
import Derived.StillTailTactics
import Derived.Test.YtijkdpdmclkmlaaGreatDoorJ0
import Derived.Lib.SliceRun
import Derived.Laws.AppendOwnNone
import Derived.Test.YtijkdpdmclkmlaaGreatDoorJ2
import Derived.Test.YtijkdpdmclkmlaaGreatDoorJ4
import Derived.Test.YtijkdpdmclkmlaaGreatDoorJ19
import Derived.BigQuiet
import Derived.Test.YtijkdpdmclkmlaaGreatDoorJ18
import Derived.Deep.CutBlock
import Derived.Test.YtijkdpdmclkmlaaGreatDoorJ21
import Derived.Test.YtijkdpdmclkmlaaGreatDoorJ3
import Derived.Test.YtijkdpdmclkmlaaGreatDoorJ29
import Derived.Test.YtijkdpdmclkmlaaGreatDoorJ8
import Derived.Test.YtijkdpdmclkmlaaGreatDoorJ14
import Derived.Test.YtijkdpdmclkmlaaGreatDoorJ40
import Derived.Test.YtijkdpdmclkmlaaGreatDoorJ47
import Derived.Test.YtijkdpdmclkmlaaGreatDoorJ46
import Derived.Test.YtijkdpdmclkmlaaGreatDoorJ39
import Derived.Test.YtijkdpdmclkmlaaGreatDoorJ27
import Derived.IntWalk
import Derived.Test.YtijkdpdmclkmlaaGreatDoorJ24
set_option linter.unusedSimpArgs false
set_option linter.unusedVariables false
set_option maxRecDepth 100000
set_option maxHeartbeats 16000000
namespace Go.Proofs.YtijkdpdmclkmlaaGreatDoor
open Go.RowKit
theorem info_u8 : (Tryz.prog.info? 5).map (fun i => (i.zero, i.size, i.bytes)) = some (some (.int .u8 0), 1, 1) := by kernel_rfl
theorem u8s_one (bs : List Int) : ∀ y ∈ u8s bs, y.oneCell' = true := fun y hy => by
  obtain ⟨x, _, rfl⟩ := List.mem_map.1 hy; rfl
theorem vcut_fin {w W1 : World} (hW : W1 = w.alloc (.cells #[] 5)) (x : Int) (Z : Array Value) (t : TypeId) :
    Cells ((W1.alloc (.cells #[.int .u8 x] t)).alloc (.cells (#[.int .u8 x] ++ Z) t)).drew (some ⟨w.heap.size + 1 + 1, 0, none⟩) (u8s [x]) ∧ Below w.heap.size w ((W1.alloc (.cells #[.int .u8 x] t)).alloc (.cells (#[.int .u8 x] ++ Z) t)).drew := by
  have hs : W1.heap.size = w.heap.size + 1 := by rw [hW]; simp
  have hb : Below w.heap.size w W1 := by rw [hW]; exact (Below.refl _ _).alloc (Nat.le_refl _) _
  refine ⟨fun j u hj => ?_, ((hb.alloc (by omega) _).alloc (by simp; omega) _).drew⟩
  match j, hj with
  | 0, hj =>
    simp [u8s] at hj
    subst hj
    refine ⟨_, _, rfl, ?_⟩
    have h := heap_alloc_new (W1.alloc (.cells #[.int .u8 x] t)) (.cells (#[.int .u8 x] ++ Z) t)
    rw [World.size_alloc, hs] at h
    exact (cell_of_row _ (w.heap.size + 1 + 1) 0 _ _ _ h).trans (by rw [Array.getElem?_append_left (by simp)]; rfl)

set_option maxRecDepth 100000 in
set_option maxHeartbeats 4000000 in
theorem vCut_any (A : Option Addr) (bs : List Int) (c n : Nat) (w : World) (hA : Cells w A (u8s bs)) (hrng : ∀ x ∈ bs, 0 ≤ x ∧ x < 256) (hc : bs.length ≤ c) (hlen : bs.length ≤ 1000000) (hn : n ≤ 200) :
    Calls Tryz.prog 15 #[.slice A bs.length c, .int .i64 n] w fun e w' => ∃ A' c' bs', e = .returned (.slice A' bs'.length c') ∧ Cells w' A' (u8s bs') ∧ (∀ x ∈ bs', 0 ≤ x ∧ x < 256) ∧ bs'.length ≤ bs.length + 1 ∧ Below w.heap.size w w' := by
  obtain ⟨i0, hi, hz0, hz1, hz2⟩ := info_parts info_u8
  obtain ⟨W1, hW1⟩ : ∃ W1, W1 = w.alloc (.cells #[] 5) := ⟨_, rfl⟩
  have HF := Lib.hid (fun x Z => vcut_fin hW1 x Z 5)
  by_cases hge : bs.length ≤ n
  · have HW1 := Lib.hid hW1
    have hAn : A = none → bs.length = 0 := fun e => by
      cases bs with
      | nil => rfl
      | cons x r => obtain ⟨b, o, e', _⟩ := hA 0 (.int .u8 x) rfl; rw [e] at e'; cases e'
    generalize bs.length = m at *
    clear hA hW1 hrng
    cases A with
    | none =>
      obtain rfl : m = 0 := hAn rfl
      by_cases hlt : 0 < n
      · have hlt' : (0 : Int) < (n : Int) := by omega
        go_enter Tryz.func15, Tryz.ntmps15
        go_wp2_with fail
        go_ret
        rw [← HW1.out]
        exact ⟨_, _, [0], rfl, (HF.out 0 _).1, (fun y hy => by simp at hy; subst hy; omega), by simp, (HF.out 0 _).2⟩
      obtain rfl : n = 0 := by omega
      go_enter Tryz.func15, Tryz.ntmps15
      go_wp2_with fail
      go_ret
      rw [← HW1.out]
      exact ⟨_, _, [0], rfl, (HF.out 0 _).1, (fun y hy => by simp at hy; subst hy; omega), by simp, (HF.out 0 _).2⟩
    | some ad =>
      clear hAn
      by_cases hlt : m < n
      · have hlt' : (m : Int) < (n : Int) := by omega
        by_cases hcm : m = c
        · subst hcm
          go_enter Tryz.func15, Tryz.ntmps15
          go_wp2_with fail
          go_ret
          rw [← HW1.out]
          exact ⟨_, _, [(m : Int)], rfl, (HF.out (m : Int) _).1, (fun y hy => by simp at hy; subst hy; omega), by simp, (HF.out (m : Int) _).2⟩
        have hcm' : ¬ (m : Int) = (c : Int) := by omega
        have hc' : (m : Int) ≤ (c : Int) := by omega
        go_enter Tryz.func15, Tryz.ntmps15
        go_wp2_with fail
        all_goals
          go_ret
          rw [← HW1.out]
          exact ⟨_, _, [(m : Int)], rfl, (HF.out (m : Int) _).1, (fun y hy => by simp at hy; subst hy; omega), by simp, (HF.out (m : Int) _).2⟩
      obtain rfl : m = n := by omega
      by_cases hcm : m = c
      · subst hcm
        go_enter Tryz.func15, Tryz.ntmps15
        go_wp2_with fail
        go_ret
        rw [← HW1.out]
        exact ⟨_, _, [(m : Int)], rfl, (HF.out (m : Int) _).1, (fun y hy => by simp at hy; subst hy; omega), by simp, (HF.out (m : Int) _).2⟩
      have hcm' : ¬ (m : Int) = (c : Int) := by omega
      have hc' : (m : Int) ≤ (c : Int) := by omega
      go_enter Tryz.func15, Tryz.ntmps15
      go_wp2_with fail
      all_goals
        go_ret
        rw [← HW1.out]
        exact ⟨_, _, [(m : Int)], rfl, (HF.out (m : Int) _).1, (fun y hy => by simp at hy; subst hy; omega), by simp, (HF.out (m : Int) _).2⟩
  have hgt : n < bs.length := by omega
  have hlt' : ¬ (bs.length : Int) < (n : Int) := by omega
  have hn1 : (n : Int) < (bs.length : Int) := by omega
  have hn2 : (n : Int) < (c : Int) := by omega
  have hcn : ¬ n = c := by omega
  obtain ⟨ad, rfl⟩ : ∃ ad, A = some ad := by
    cases bs with
    | nil => simp at hgt
    | cons x r => obtain ⟨b, o, e', _⟩ := hA 0 (.int .u8 x) rfl; exact ⟨_, e'⟩
  have hb1 : Below w.heap.size w W1 := by rw [hW1]; exact (Below.refl _ _).alloc (Nat.le_refl _) _
  have HO1 := Lib.hid (show W1.ownsRow w.heap.size 5 1 (.slice (some ⟨w.heap.size, 0, none⟩) 0 0) 0 [] by rw [hW1]; exact World.ownsRow_made w #[] 0 (Nat.le_refl _) (Nat.zero_le _) rfl)
  have HB1 := Lib.hid hb1
  have hs1 : W1.heap.size = w.heap.size + 1 := by rw [hW1]; simp
  have HCC := Lib.hid (show ∀ j u, (u8s (bs.drop n))[j]? = some u → W1.cell? ((ad.add n).add j) = some u from fun j u hj => by
    have hj' : (u8s bs)[n + j]? = some u := by
      have e : u8s (bs.drop n) = (u8s bs).drop n := by simp [u8s, List.map_drop]
      rw [e, List.getElem?_drop] at hj; exact hj
    obtain ⟨b, o, e, h⟩ := (hA.below hb1) _ _ hj'
    cases e
    rw [Addr.add_lit, Addr.add_lit, Nat.add_assoc]; exact h)
  have HW1 := Lib.hid hW1
  clear hW1 hb1 hA hge
  go_enter Tryz.func15, Tryz.ntmps15
  have e0 : (bs.drop n).length ≤ 1000000 := by simp; omega
  have e1 : (bs.drop n).length ≤ bs.length := by simp
  have HE := Lib.hid (show ∀ x ∈ bs.drop n, 0 ≤ x ∧ x < 256 from fun x hx => hrng x (List.mem_of_mem_drop hx))
  have HLE := Lib.hid (show bs.length - n = (bs.drop n).length by simp)
  generalize bs.drop n = r at *
  go_wp2_with (first
    | (at_builtin; refine wpList_append_own _ rfl (.tmp 11) (.tmp 14) 22 rfl w.heap.size 5 i0 (.int .u8 0) 1 1 Tryz.underlying22 hi hz0 hz1 hz2 rfl (by decide) _ _ _ rfl (HW1.out ▸ HO1.out) (ad.add n) (bs.length - n) (c - n) (u8s r) rfl (by simp [HLE.out]) (HW1.out ▸ HCC.out) (u8s_one _) (by unfold maxLen; omega) (by omega) (by rw [← HW1.out]; omega) ?_; intro v2 w2 hown2 hgrow2 _; rw [← HW1.out] at hgrow2; rw [show 0 + (bs.length - n) = r.length by rw [HLE.out]; omega, List.nil_append] at hown2; have hb2 := HB1.out.grown hgrow2 HB1.out.size (fun q hq => (HO1.out.lt q hq).1); have HO2 := Lib.hid hown2; have HB2 := Lib.hid hb2; have hs2 := hb2.size; clear hown2 hgrow2 hb2; have hb3 := (Below.refl w2.heap.size w2).alloc (Nat.le_refl _) (.cells #[.int .u8 (n : Int)] 5); have HB3 := Lib.hid (HB2.out.trans (hb3.mono HB2.out.size)); have HO3 := Lib.hid (HO2.out.alloc (.cells #[.int .u8 (n : Int)] 5)); have HC3 := Lib.hid (heap_alloc_new w2 (.cells #[.int .u8 (n : Int)] 5)); clear hb3)
    | (at_builtin; refine wpList_append_own _ rfl (.tmp 15) (.tmp 18) 22 rfl w.heap.size 5 i0 (.int .u8 0) 1 1 Tryz.underlying22 hi hz0 hz1 hz2 rfl (by decide) _ _ _ rfl HO3.out ⟨w2.heap.size, 0, none⟩ 1 1 [.int .u8 (n : Int)] rfl rfl (fun j' u' hj' => by match j', hj' with | 0, hj' => (simp at hj'; subst hj'; exact cell_of_row _ w2.heap.size _ _ _ _ HC3.out)) (fun u' hu' => by simp at hu'; subst hu'; rfl) (by unfold maxLen; omega) (by omega) (by simp; omega) ?_; intro v4 w4 hown4 hgrow4 _)
    | fail)
  have hb4 := HB3.out.grown hgrow4 HB3.out.size (fun q hq => (HO2.out.lt q hq).1)
  have hown4' : w4.ownsRow w.heap.size 5 1 v4 (r ++ [(n : Int)]).length (u8s (r ++ [(n : Int)])) := by simpa [u8s] using hown4
  obtain ⟨A', c', e4, h5⟩ := owns_form hown4'
  go_ret
  refine ⟨A', c', r ++ [(n : Int)], by rw [← e4]; rfl, Cells.of_owns h5, (fun y hy => by rcases List.mem_append.1 hy with h | h; exact HE.out y h; simp at h; subst h; omega), by simp; omega, hb4⟩

theorem small_places (r : Int) (ss : List Int) (hr : -1000 ≤ r ∧ r ≤ 1000) (hl : ss.length ≤ 1000) (hb : ∀ p ∈ ss, -9223372036854775808 ≤ p) : SmallG ⟨r, [], ss, 0, [], []⟩ :=
  { nodes := Nat.zero_le _, links := fun x hx => (nomatch hx), sites := hl, outer := Nat.zero_le _, onames := fun s hs => (nomatch hs), inner := Nat.zero_le _, inames := fun x hx => (nomatch hx), edges := by show (-1000 : Int) ≤ 0 ∧ (0 : Int) ≤ 1000; omega, roots := hr, pars := fun x hx => (nomatch hx), sits := hb }
theorem zeroG_small : SmallG zeroG := small_places _ _ (by omega) (Nat.zero_le _) fun p hp => (nomatch hp)
theorem subG_small {f t o : List ByteArray} (hf : f.length ≤ 1000) (hfz : ∀ s ∈ f, s.size ≤ 1000) (ho : o.length ≤ 1000) (hoz : ∀ s ∈ o, s.size ≤ 1000) : SmallG (subG f t o) :=
  { nodes := Nat.zero_le _, links := fun x hx => (nomatch hx), sites := Nat.zero_le _, outer := ho, onames := hoz
    inner := by show ((List.range f.length).map _).length ≤ 1000; rw [List.length_map, List.length_range]; exact hf
    inames := fun x hx => by
      obtain ⟨i, hi, rfl⟩ := List.mem_map.1 hx
      have hi2 := List.mem_range.1 hi
      exact hfz _ (by simp [List.getD, hi2])
    edges := by show (-1000 : Int) ≤ 0 ∧ (0 : Int) ≤ 1000; omega, roots := by show (-1000 : Int) ≤ 0 ∧ (0 : Int) ≤ 1000; omega, pars := fun x hx => (nomatch hx), sits := fun p hp => (nomatch hp) }
theorem ionG_small {c : Int} {n o : List ByteArray} (hn : n.length ≤ 1000) (ho : o.length ≤ 1000) (hoz : ∀ s ∈ o, s.size ≤ 1000) : SmallG (ionG c n o) :=
  { nodes := by show (1 : Nat) ≤ 1000; omega
    links := fun x hx => by
      have : x = (c, -1, n.map (atS o)) := by simpa [ionG] using hx
      rw [this]; show (n.map _).length ≤ 1000; rw [List.length_map]; exact hn
    sites := by show (1 : Nat) ≤ 1000; omega, outer := ho, onames := hoz, inner := Nat.zero_le _, inames := fun x hx => (nomatch hx), edges := by show (-1000 : Int) ≤ 0 ∧ (0 : Int) ≤ 1000; omega, roots := by show (-1000 : Int) ≤ 1 ∧ (1 : Int) ≤ 1000; omega
    pars := fun x hx => by
      have : x = (c, -1, n.map (atS o)) := by simpa [ionG] using hx
      rw [this]; show (-9223372036854775808 : Int) ≤ -1; omega
    sits := fun p hp => by
      have : p = 0 := by simpa [ionG] using hp
      omega }
theorem sort_small {l : List ByteArray} {n z : Nat} (h1 : l.length ≤ n) (h2 : ∀ s ∈ l, s.size ≤ z) : (sortS l).length ≤ n ∧ ∀ s ∈ sortS l, s.size ≤ z := ⟨Nat.le_trans (sortS_len l) h1, fun s hs => h2 s (sortS_mem.1 hs)⟩

theorem sigK_reads {V : World} {k : Nat} (h : V.heap[k]? = some (.cells #[.string ⟨#[107]⟩, .int .i64 0, .int .i64 0] 44)) : RSl RCt 3 V (.slice (some ⟨k, 0, none⟩) 1 1) sigK :=
 ct_rsl (B := k) (e := 44) ⟨rfl, .inr ⟨k, 1, _, rfl, Nat.le_refl _, h, Nat.le_refl _, by decide, rfl, rfl⟩⟩ (by decide)
theorem sigK_cap (g : Nat) : CapOk (.slice (some ⟨g, 0, none⟩) 1 1) := by
 rintro A n c e
 cases e
 decide
theorem sigK_small : SmallS sigK := by
 refine ⟨by decide, fun c hc => ?_⟩
 have : c = (⟨#[107]⟩, 0, 0) := by simpa [sigK] using hc
 subst this; decide
theorem barG_small {n : Int} (h : -1000 ≤ n ∧ n ≤ 1000) : SmallG (barG n) := small_places _ _ h (Nat.zero_le _) fun p hp => (nomatch hp)
section
variable {o : Bool} {g h : Gr} {n m k : Int} {l : List ByteArray} {t : List Int}
end

end Go.Proofs.YtijkdpdmclkmlaaGreatDoor
