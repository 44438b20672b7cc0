/- Kinds of bigraphs: the tests by places, and the plain law of them. Tests of a bigraph: by fields, and by loops: both packages walked. Two slices of numbers compared: l1Same and slices.Equal walked. -/
import Derived.Test.YtijkdpdmclkmlaaGreatDoorProg
import Derived.Test.YtijkdpdmclkmlaaGreatDoorJ20
import Derived.Test.YtijkdpdmclkmlaaGreatDoorJ16
import Derived.Test.YtijkdpdmclkmlaaGreatDoorJ0
import Derived.Test.YtijkdpdmclkmlaaGreatDoorJ15
import Derived.Test.YtijkdpdmclkmlaaGreatDoorJ7
import Derived.Test.YtijkdpdmclkmlaaGreatDoorJ1
import Derived.BigQuiet
import Derived.Test.YtijkdpdmclkmlaaGreatDoorJ5
import Derived.Deep.QuietTactic
set_option linter.unusedSimpArgs false
set_option linter.unusedVariables false
set_option maxRecDepth 100000
set_option maxHeartbeats 16000000
namespace Go.Proofs.YtijkdpdmclkmlaaGreatDoor
open Go.RowKit
theorem plac_int (g : Gr) : placB g = (((g.nodes.length : Int) == 0) && (g.edges == 0) && ((g.outer.length : Int) == 0) && ((g.inner.length : Int) == 0)) := by
  unfold placB
  rw [Bool.eq_iff_iff]
  simp
theorem sum_plac {g : Gr} (he : 0 ≤ g.edges) : ((g.nodes.length : Int) + g.edges + (g.outer.length : Int) + (g.inner.length : Int) == 0) = placB g := by
  rw [plac_int, Bool.eq_iff_iff]
  simp only [Bool.and_eq_true, beq_iff_eq]
  omega
theorem und_len (g : Gr) : (undG g).length = g.sites.length := by unfold undG; rw [List.length_map]
theorem und_take {g : Gr} {k : Nat} (h : k < g.sites.length) : (undG g).take (k + 1) = (undG g).take k ++ [-1 - g.sites.getD k 0] := by
  rw [List.take_add_one, getD_lt (d := 0) (show k < (undG g).length by rw [und_len]; exact h), und_at h]
  rfl
def idN (g : Gr) : Gr := idG g.roots.toNat g.outer
/-- Compared with one that has no nodes, field by field. -/
def eqI (a h : Gr) : Bool := (a.roots == h.roots) && (a.edges == h.edges) && decide (a.sites = h.sites) && decide (a.outer = h.outer) && decide (a.inner = h.inner) && decide (a.nodes = [])
theorem eqI_iff {a h : Gr} (hn : h.nodes = []) : eqI a h = true ↔ a = h := by
  unfold eqI
  simp only [Bool.and_eq_true, beq_iff_eq, decide_eq_true_eq]
  constructor
  · rintro ⟨⟨⟨⟨⟨h1, h2⟩, h3⟩, h4⟩, h5⟩, h6⟩
    exact gr_ext _ _ h1 (by rw [h6, hn]) h3 h2 h4 h5
  rintro rfl
  exact ⟨⟨⟨⟨⟨rfl, rfl⟩, rfl⟩, rfl⟩, rfl⟩, hn⟩
def placR (sig : List Ct) (g : Gr) : Bool := goodG sig g && placB g
def permR (sig : List Ct) (g : Gr) : Bool := goodG sig g && permB g
def identR (sig : List Ct) (g : Gr) : Bool := goodG sig g && eqI g (idN g)
def primR (sig : List Ct) (g : Gr) : Bool := goodG sig g && (g.roots == 1) && ((g.inner.length : Int) == 0)
theorem placR_eq (sig : List Ct) (g : Gr) : placR sig g = (goodG sig g && placB g) := rfl
theorem permR_eq (sig : List Ct) (g : Gr) : permR sig g = (goodG sig g && permB g) := rfl
theorem primR_eq (sig : List Ct) (g : Gr) : primR sig g = (goodG sig g && (g.roots == 1) && ((g.inner.length : Int) == 0)) := rfl
theorem identR_eq (sig : List Ct) (g : Gr) : identR sig g = (goodG sig g && eqI g (idN g)) := rfl
theorem permB_eq (g : Gr) : permB g = (placB g && orderB g.roots (undG g)) := rfl
theorem sits_bound {sig : List Ct} {g : Gr} (h : GoodP sig g) : ∀ p ∈ g.sites, p ≤ 1000 := fun p hp => by
  have h1 := h.sit p hp
  have h2 := h.n8
  by_cases h0 : 0 ≤ p
  · have := (h1.2 h0).1; omega
  omega
theorem idN_small {sig : List Ct} {g : Gr} (h : GoodP sig g) (hs : SmallG g) : SmallG (idN g) := by
  have hr := h.r
  refine { nodes := Nat.zero_le _, links := fun x hx => (nomatch hx), sites := ?_, outer := hs.outer, onames := hs.onames, inner := ?_, inames := fun x hx => ?_, edges := by show (-1000 : Int) ≤ 0 ∧ (0 : Int) ≤ 1000; omega, roots := ?_, pars := fun x hx => (nomatch hx), sits := fun p hp => ?_ }
  · show ((List.range g.roots.toNat).map _).length ≤ 1000
    rw [List.length_map, List.length_range]; omega
  · show ((List.range g.outer.length).map _).length ≤ 1000
    rw [List.length_map, List.length_range]; exact hs.outer
  · obtain ⟨i, hi, rfl⟩ := List.mem_map.1 hx
    have hi2 := List.mem_range.1 hi
    exact hs.onames _ (by simp [List.getD, hi2])
  · show -1000 ≤ ((g.roots.toNat : Nat) : Int) ∧ ((g.roots.toNat : Nat) : Int) ≤ 1000
    omega
  obtain ⟨i, hi, rfl⟩ := List.mem_map.1 hp
  have hi2 := List.mem_range.1 hi
  omega

theorem isPlacing_any (g : Gr) (nv sv ov iv : Value) (w : World) (hs : SmallG g) (hG : RGr w nv sv ov iv g) (he : 0 ≤ g.edges) :
    Calls Tryz.prog 108 #[.agg #[.int .i64 g.roots, nv, sv, .int .i64 g.edges, ov, iv]] w fun e w' => e = .returned (.bool (placB g)) ∧ Below w.heap.size w w' := by
  have HG := Lib.hid (show ∀ W, Below w.heap.size w W → RGr W nv sv ov iv g from fun W hb => hG.below hb)
  have HSM := Lib.hid hs
  obtain ⟨AN, cN, AS, cS, AO, cO, AI, cI, rfl, rfl, rfl, rfl⟩ := hG.form
  obtain ⟨w0, hw0, hb0, hsz0, bx0⟩ := laid1 w (.cells #[.int .i64 g.roots, .slice AN g.nodes.length cN, .slice AS g.sites.length cS, .int .i64 g.edges, .slice AO g.outer.length cO, .slice AI g.inner.length cI] 31)
  have HX := Lib.hid (keepB bx0)
  have HB0 := Lib.hid hb0
  have HW0 := Lib.hid hw0
  obtain ⟨x0, x1, x2, x3, x4, x5⟩ := row6 bx0
  rw [hw0] at x0 x1 x2 x3 x4 x5
  have n1 := hs.nodes
  have n2 := hs.outer
  have n3 := hs.inner
  have n4 := hs.edges
  have HE := Lib.hid (sum_plac he)
  clear hs hG hb0 bx0 hw0
  go_enter Tryz.func108, Tryz.ntmps108
  go_wp2_with fail
  rw [← HW0.out]
  go_ret
  exact ⟨by first | (rw [← HE.out]; done) | (rw [← HE.out]; rfl), HB0.out⟩

theorem under_any (g : Gr) (nv sv ov iv : Value) (w : World) (hs : SmallG g) (hG : RGr w nv sv ov iv g) (hlo : ∀ p ∈ g.sites, p ≤ 1000) :
    Calls Tryz.prog 158 #[.agg #[.int .i64 g.roots, nv, sv, .int .i64 g.edges, ov, iv]] w fun e w' => ∃ r, e = .returned r ∧ w'.ownsRow w.heap.size 3 1 r (undG g).length (ints (undG g)) ∧ Below w.heap.size w w' := by
  have HG := Lib.hid (show ∀ W, Below w.heap.size w W → RGr W nv sv ov iv g from fun W hb => hG.below hb)
  have HSM := Lib.hid hs
  obtain ⟨AN, cN, AS, cS, AO, cO, AI, cI, rfl, rfl, rfl, rfl⟩ := hG.form
  obtain ⟨w0, hw0, hb0, hsz0, bx0⟩ := laid1 w (.cells #[.int .i64 g.roots, .slice AN g.nodes.length cN, .slice AS g.sites.length cS, .int .i64 g.edges, .slice AO g.outer.length cO, .slice AI g.inner.length cI] 31)
  have HX := Lib.hid (keepB bx0)
  have HB0 := Lib.hid hb0
  have HW0 := Lib.hid hw0
  obtain ⟨x0, x1, x2, x3, x4, x5⟩ := row6 bx0
  rw [hw0] at x0 x1 x2 x3 x4 x5
  have hn := hs.sites
  have HLO := Lib.hid (show ∀ p ∈ g.sites, -9223372036854775808 ≤ p ∧ p ≤ 1000 from fun p hp => ⟨hs.sits p hp, hlo p hp⟩)
  clear hs hG hb0 bx0 hw0 hlo
  go_enter Tryz.func158, Tryz.ntmps158
  go_wp2_with fail
  rw [← HW0.out]
  clear x0 x1 x2 x3 x4 x5
  go_loopw [3, 10] (fun u i wr => ∃ k : Nat, k ≤ g.sites.length ∧ i = .int .i64 k ∧ wr.ownsRow w0.heap.size 3 1 u k (ints ((undG g).take k)) ∧ Below w0.heap.size w0 wr)
    (fun _ i _ => g.sites.length - (intOf i).toNat)
  case atStart => exact ⟨0, Nat.zero_le _, rfl, by have h := made_rowG w0 3; rw [hsz0] at h ⊢; exact h, (Below.refl _ _).alloc (Nat.le_refl _) _⟩
  obtain ⟨k, hk, rfl, hown, hbel⟩ := hrel
  obtain ⟨AU, cU, rfl, hown⟩ := owns_form hown
  have hsz := hbel.size
  by_cases hlt : k < g.sites.length
  · obtain ⟨A', c', eS, hcS⟩ := (HG.out wr (HB0.out.trans (hbel.mono HB0.out.size))).s
    cases eS
    obtain ⟨b, o, rfl, hc⟩ := hcS.int hlt
    have k0 := hc k hlt
    have hmem : g.sites.getD k 0 ∈ g.sites := by simp [List.getD, hlt]
    have hpl := HLO.out _ hmem
    have HT := Lib.hid (und_take hlt)
    have HO := Lib.hid hown
    have HBE := Lib.hid hbel
    clear hown hbel hc hcS hmem
    generalize g.sites.getD k 0 = p at *
    have hpr : -9223372036854775808 ≤ -1 - p ∧ -1 - p < 9223372036854775808 := by omega
    go_wp2_with (at_builtin; refine wpList_app el_intG rfl _ _ rfl w0.heap.size _ _ _ rfl HO.out [.int .i64 (-1 - p)] rfl rfl rfl (one1 rfl) (by omega) hsz ?_; intro v2 w2 ho hk2 hm2)
    have HO2 := Lib.hid (show w2.ownsRow w0.heap.size 3 1 v2 (k + 1) (ints ((undG g).take (k + 1))) from by rw [HT.out, ints_app]; exact ho)
    have HB2 := Lib.hid (below_kept HBE.out hk2 (fun q hq => (HO.out.lt q hq).1) hsz)
    clear ho hk2 hm2
    go_wp2_with fail
    go_roundw
    case rel => exact ⟨k + 1, by omega, by go_num, HO2.out, HB2.out⟩
    case measure => simp [intOf]; omega
  obtain rfl : k = g.sites.length := by omega
  have HO := Lib.hid (show wr.ownsRow w.heap.size 3 1 (.slice AU g.sites.length cU) (undG g).length (ints (undG g)) from by
    have h := owns_mono hown HB0.out.size
    rw [List.take_of_length_le (by rw [und_len]; exact Nat.le_refl _)] at h
    rw [und_len]; exact h)
  have HBE := Lib.hid (HB0.out.trans (hbel.mono HB0.out.size))
  clear hown hbel
  go_wp2_with fail
  go_ret
  exact ⟨_, rfl, HO.out, HBE.out⟩

theorem same_no {xs ys : List Int} (hl : xs.length = ys.length) {k : Nat} (hk : k < xs.length) (h : xs.getD k 0 ≠ ys.getD k 0) : sameI xs ys = false := by
  unfold sameI
  rw [decide_eq_false_iff_not]
  intro e
  exact h (by rw [e])
theorem same_yes {xs ys : List Int} (hl : xs.length = ys.length) (h : ∀ j, j < xs.length → xs.getD j 0 = ys.getD j 0) : sameI xs ys = true := by
  unfold sameI
  rw [decide_eq_true_iff]
  apply List.ext_getElem hl
  intro i h1 h2
  have := h i h1
  simpa [List.getD, h1, h2] using this
theorem same_len {xs ys : List Int} (hl : xs.length ≠ ys.length) : sameI xs ys = false := by
  unfold sameI
  rw [decide_eq_false_iff_not]
  intro e
  exact hl (by rw [e])

set_option maxRecDepth 100000 in
set_option maxHeartbeats 2000000 in
theorem equalI_any (A B : Option Addr) (c d : Nat) (xs ys : List Int) (w : World) (hn : xs.length ≤ 16777216) (hm : ys.length ≤ 16777216) (hA : Cells w A (ints xs)) (hB : Cells w B (ints ys)) :
    Calls Tryz.prog 185 #[.slice A xs.length c, .slice B ys.length d] w fun e w' => e = .returned (.bool (sameI xs ys)) ∧ Below w.heap.size w w' := by
  by_cases hl : xs.length = ys.length
  · have hl' : ((xs.length : Int) == (ys.length : Int)) = true := by simp [hl]
    have hl'' : ((xs.length : Int) != (ys.length : Int)) = false := by simp [hl]
    have HL := Lib.hid hl
    have HA := Lib.hid (show ∀ W, Below w.heap.size w W → Cells W A (ints xs) from fun W hb => hA.below hb)
    have HB := Lib.hid (show ∀ W, Below w.heap.size w W → Cells W B (ints ys) from fun W hb => hB.below hb)
    clear hl hA hB
    go_enter Tryz.func185, Tryz.ntmps185
    go_wp2_with fail
    go_loopw [13] (fun i wr => ∃ k : Nat, k ≤ xs.length ∧ i = .int .i64 k ∧ (∀ j, j < k → xs.getD j 0 = ys.getD j 0) ∧ Below w.heap.size w wr) (fun i _ => xs.length - (intOf i).toNat)
    case atStart => exact ⟨0, Nat.zero_le _, rfl, fun j hj => by omega, Below.refl _ _⟩
    obtain ⟨k, hk, rfl, hall, hbel⟩ := hrel
    have HALL := Lib.hid hall
    have HZ := Lib.hid hbel
    clear hall
    by_cases hlt : k < xs.length
    · have hlt2 : k < ys.length := by have := HL.out; omega
      obtain ⟨b, o, rfl, hc⟩ := (HA.out wr hbel).int hlt
      obtain ⟨b', o', rfl, hc'⟩ := (HB.out wr hbel).int hlt2
      have c1 := hc k hlt
      have c2 := hc' k hlt2
      have b0 : (0 : Int) ≤ (k : Int) := by omega
      have b1 : (k : Int) < (xs.length : Int) := by omega
      have b2 : (k : Int) < (ys.length : Int) := by omega
      clear hc hc' hbel
      by_cases hx : xs.getD k 0 = ys.getD k 0
      · have HN := Lib.hid (show ∀ j, j < k + 1 → xs.getD j 0 = ys.getD j 0 from fun j hj => by
          rcases Nat.lt_succ_iff_lt_or_eq.1 hj with h | h
          · exact HALL.out j h
          rw [h]; exact hx)
        rw [← hx] at c2
        clear hx
        generalize xs.getD k 0 = x at *
        have hne : (x != x) = false := by rw [bne_self_eq_false]
        go_wp2_with fail
        go_quiet (fail)
        go_wp2_with fail
        go_roundw
        case rel => exact ⟨k + 1, by omega, by go_num, HN.out, below_drewN' HZ.out _⟩
        case measure => simp [intOf]; omega
      have HN := Lib.hid (same_no HL.out hlt hx)
      have hne : (xs.getD k 0 != ys.getD k 0) = true := by rw [bne_iff_ne]; exact hx
      clear hx
      generalize xs.getD k 0 = x at *
      generalize ys.getD k 0 = y at *
      go_wp2_with fail
      go_quiet (fail)
      go_wp2_with fail
      go_ret
      exact ⟨by rw [HN.out]; rfl, below_drewN' HZ.out _⟩
    obtain rfl : k = xs.length := by omega
    have HE := Lib.hid (same_yes HL.out HALL.out)
    clear hbel
    go_wp2_with fail
    go_ret
    exact ⟨by rw [HE.out]; rfl, HZ.out⟩
  have hl' : ((xs.length : Int) == (ys.length : Int)) = false := by rw [beq_eq_false_iff_ne]; omega
  have hl'' : ((xs.length : Int) != (ys.length : Int)) = true := by rw [bne_iff_ne]; omega
  have HE := Lib.hid (same_len hl)
  clear hl hA hB
  go_enter Tryz.func185, Tryz.ntmps185
  go_wp2_with fail
  go_ret
  exact ⟨by rw [HE.out]; rfl, Below.refl _ _⟩

end Go.Proofs.YtijkdpdmclkmlaaGreatDoor
