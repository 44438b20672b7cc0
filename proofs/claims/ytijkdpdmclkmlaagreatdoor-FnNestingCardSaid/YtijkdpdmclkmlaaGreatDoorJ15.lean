/- Names of the reference: searched, put in order, tested: walked. -/
import Derived.Test.YtijkdpdmclkmlaaGreatDoorProg
import Derived.Test.YtijkdpdmclkmlaaGreatDoorJ4
import Derived.Test.YtijkdpdmclkmlaaGreatDoorJ9
import Derived.Test.YtijkdpdmclkmlaaGreatDoorJ8
import Derived.Test.YtijkdpdmclkmlaaGreatDoorJ10
import Derived.Test.YtijkdpdmclkmlaaGreatDoorJ13
import Derived.Test.YtijkdpdmclkmlaaGreatDoorJ6
import Derived.Test.YtijkdpdmclkmlaaGreatDoorJ14
import Derived.BigQuiet
set_option linter.unusedSimpArgs false
set_option linter.unusedVariables false
set_option maxRecDepth 100000
set_option maxHeartbeats 16000000
namespace Go.Proofs.YtijkdpdmclkmlaaGreatDoor
open Go.RowKit
theorem atS_none : ∀ {l : List ByteArray} {s : ByteArray}, (∀ j, j < l.length → l.getD j default ≠ s) → atS l s = -1
 | [], _, _ => rfl
 | x :: l, s, h => by
  have h0 : x ≠ s := h 0 (by simp)
  have h1 := atS_none (l := l) (s := s) (fun j hj => h (j + 1) (by simpa using hj))
  simp [atS, h0, h1]
theorem atS_some : ∀ {l : List ByteArray} {s : ByteArray} {k : Nat}, k < l.length → l.getD k default = s → (∀ j, j < k → l.getD j default ≠ s) → atS l s = k
 | [], _, _, h, _, _ => by simp at h
 | x :: l, s, 0, _, h, _ => by
  have h0 : x = s := h
  simp [atS, h0]
 | x :: l, s, k + 1, hk, h, hn => by
  have h0 : x ≠ s := hn 0 (by omega)
  have h1 := atS_some (l := l) (s := s) (k := k) (by simpa using hk) h (fun j hj => hn (j + 1) (by omega))
  simp only [atS, h0, h1, if_false]
  rw [if_neg (by omega)]
  push_cast
  rfl
theorem own_ptr {w : World} {B s n : Nat} {e : TypeId} {v : Value} {xs : List Value} (h : w.ownsRow B e s v n xs) (hn : 1 ≤ n) : ∃ g c, v = .slice (some ⟨g, 0, none⟩) n c ∧ n ≤ c := by
 rcases h.2 with ⟨_, h0⟩ | ⟨g, c, cur, rfl, _, _, h3, _⟩
 ·omega
 exact ⟨g, c, rfl, h3⟩
theorem cells_take0 {w : World} {A : Option Addr} {cs : List Value} (h : Cells w A cs) (k : Nat) : Cells w A (cs.take k) := fun j u hj => by
 rw [List.getElem?_take] at hj
 split at hj
 ·exact h j u hj
 cases hj
theorem cells_drop0 {w : World} {b o : Nat} {cs : List Value} (h : Cells w (some ⟨b, o, none⟩) cs) (k : Nat) : Cells w (some ⟨b, o + k, none⟩) (cs.drop k) := fun j u hj => by
 rw [List.getElem?_drop] at hj
 obtain ⟨b', o', e, hc⟩ := h (k + j) u hj
 cases e
 exact ⟨b, o + k, rfl, by rw [Nat.add_assoc]; exact hc⟩
theorem strs_one1 (l : List ByteArray) : ∀ u ∈ strs l, u.oneCell' = true := by
 intro u hu
 obtain ⟨x, _, rfl⟩ := List.mem_map.1 hu
 rfl
theorem l2At_any (A : Option Addr) (c : Nat) (l : List ByteArray) (s : ByteArray) (w : World) (hn : l.length ≤ 16777216) (hA : Cells w A (strs l)) :
  Calls Tryz.prog 196 #[.slice A l.length c, .string s] w fun e w' => e = .returned (.int .i64 (atS l s)) ∧ w' = w := by
 go_enter Tryz.func196, Tryz.ntmps196
 go_wp2_with fail
 go_loop [5] (fun i => ∃ k : Nat, k ≤ l.length ∧ i = .int .i64 k ∧ ∀ j, j < k → l.getD j default ≠ s) (fun i => l.length - (intOf i).toNat)
 case atStart => exact ⟨0, Nat.zero_le _, rfl, fun j hj => by omega⟩
 obtain ⟨k, hk, rfl, hall⟩ := hrel
 have HALL := Lib.hid hall
 clear hall
 by_cases hlt : k < l.length
 ·obtain ⟨b, o, rfl, hc⟩ := hA.str hlt
  have k0 := hc k hlt
  clear hc hA
  by_cases hx : l.getD k default = s
  ·have HE := Lib.hid (atS_some hlt hx HALL.out)
   rw [hx] at k0
   clear hx
   have hee := str_eq s
   go_wp2_with fail
   go_ret
   exact ⟨by rw [HE.out]; rfl, rfl⟩
  have HN := Lib.hid (show ∀ j, j < k + 1 → l.getD j default ≠ s from fun j hj => by
   rcases Nat.lt_succ_iff_lt_or_eq.1 hj with h | h
   ·exact HALL.out j h
   rw [h]; exact hx)
  have hee := str_ne hx
  clear hx
  generalize l.getD k default = t at *
  go_wp2_with fail
  go_round
  case rel => exact ⟨k + 1, by omega, by go_num, HN.out⟩
  case measure => simp [intOf]; omega
 obtain rfl : k = l.length := by omega
 have HE := Lib.hid (atS_none HALL.out)
 go_wp2_with fail
 go_ret
 exact ⟨by rw [HE.out]; rfl, rfl⟩

theorem l2Sorted_any (A : Option Addr) (c : Nat) (l : List ByteArray) (w : World) (hn : l.length ≤ 1000000) (hA : Cells w A (strs l)) :
  Calls Tryz.prog 195 #[.slice A l.length c] w fun e w' => ∃ g c', e = .returned (.slice (some ⟨g, 0, none⟩) (sortS l).length c') ∧ w'.ownsRow w.heap.size 9 1 (.slice (some ⟨g, 0, none⟩) (sortS l).length c') (sortS l).length (strs (sortS l)) ∧ Below w.heap.size w w' := by
 have HA := Lib.hid (show ∀ W, Below w.heap.size w W → Cells W A (strs l) from fun W hb => hA.below hb)
 have HLEN := Lib.hid (fun n => Nat.le_trans (sortS_len (l.take n)) (by rw [List.length_take]; exact Nat.min_le_left _ _))
 clear hA
 go_enter Tryz.func195, Tryz.ntmps195
 go_wp2_with fail
 go_loopw [3, 4] (fun v i wr => ∃ (n g d : Nat), n ≤ l.length ∧ i = .int .i64 n ∧ v = .slice (some ⟨g, 0, none⟩) (sortS (l.take n)).length d ∧ wr.ownsRow w.heap.size 9 1 (.slice (some ⟨g, 0, none⟩) (sortS (l.take n)).length d) (sortS (l.take n)).length (strs (sortS (l.take n))) ∧ Below w.heap.size w wr)
  (fun v i _ => l.length - (intOf i).toNat)
 case atStart => exact ⟨0, _, _, Nat.zero_le _, rfl, rfl, made_rowG w 9, (Below.refl _ _).alloc (Nat.le_refl _) _⟩
 obtain ⟨i, g0, c0, hi, rfl, rfl, hown, hbel⟩ := hrel
 have hlen := HLEN.out i
 obtain ⟨o, ho⟩ : ∃ o, o = sortS (l.take i) := ⟨_, rfl⟩
 rw [← ho] at hown hlen
 have hoc := owns_capOk hown _ _ _ rfl
 obtain ⟨wa, hwa⟩ : ∃ wa, wa = wr := ⟨_, rfl⟩
 subst hwa
 have HO := Lib.hid (show ∀ W, Below wa.heap.size wa W → Cells W (some ⟨g0, 0, none⟩) (strs o) from fun W hb => (Cells.of_owns hown).below hb)
 have HOW := Lib.hid hown
 have HZA := Lib.hid hbel
 have HOE := Lib.hid ho
 have hza := hbel.size
 obtain ⟨n0, hn0⟩ : ∃ n0, n0 = o.length := ⟨_, rfl⟩
 by_cases hlt : i < l.length
 ·obtain ⟨b, o1, rfl, hc⟩ := (HA.out wa hbel).str hlt
  obtain ⟨s, hs⟩ : ∃ s, s = l.getD i default := ⟨_, rfl⟩
  have HNX := Lib.hid (show sortS (l.take (i + 1)) = putS o s from by rw [sortS_next hlt, ho, hs])
  have HLCA := hc i hlt
  rw [← hs] at HLCA
  have LCA := Lib.hid (show ∀ W, Below wa.heap.size wa W → W.cell? ⟨b, o1 + i, none⟩ = some (.string s) from fun W hb => cell_below hb HLCA (lt_of_cell HLCA))
  have HOL := Lib.hid hn0
  rw [← ho]
  rw [← hn0] at hlen hoc ⊢
  clear hown hbel ho hs hc HLCA hn0
  go_wp2_with fail
  go_loopw [5] (fun z wx => ∃ k : Nat, k ≤ n0 ∧ z = .int .i64 k ∧ (∀ j, j < k → lessS (o.getD j default) s = true) ∧ Below wa.heap.size wa wx)
   (fun z _ => n0 - (intOf z).toNat)
  case atStart => exact ⟨0, Nat.zero_le _, rfl, fun j hj => by omega, Below.refl _ _⟩
  obtain ⟨k, hk, rfl, hall, hbx⟩ := hrel
  have HALL := Lib.hid hall
  have HBX := Lib.hid hbx
  have l0 := LCA.out wr hbx
  have b0 : (0 : Int) ≤ (k : Int) := by omega
  have b2 : (0 : Int) ≤ (i : Int) := by omega
  have b3 : (i : Int) < (l.length : Int) := by omega
  clear hall
  by_cases hkn : k < n0
  ·obtain ⟨b', o', e', hc'⟩ := (HO.out wr hbx).str (show k < o.length by rw [← HOL.out]; exact hkn)
   cases e'
   have q0 := hc' k (by rw [← HOL.out]; exact hkn)
   have b1 : (k : Int) < (n0 : Int) := by omega
   rw [Nat.zero_add] at q0
   clear hc' hbx
   cases hless : lessS (o.getD k default) s
   ·have HLOW := Lib.hid (low_of (s := s) (o := o) (m := k) (by rw [← HOL.out]; exact hk) HALL.out (fun _ => hless))
    by_cases he : o.getD k default = s
    ·have HPUT := Lib.hid (show putS o s = o from by
      unfold putS
      rw [← HLOW.out, if_neg]
      rintro (h | h)
      ·have := HOL.out; omega
      exact h he)
     rw [he] at q0
     have HEQ := Lib.hid he
     have hbl : Op.bytesLess s.toList s.toList = false := bytes_irr _
     have hee := str_eq s
     have hkn2 : ((k : Int) == (n0 : Int)) = false := by rw [beq_eq_false_iff_ne]; omega
     clear hless he
     go_wp2_with fail
     go_quiet (fail)
     clear l0 q0
     obtain ⟨wp, hwq⟩ : ∃ wp, wp = wr.drewN nq := ⟨_, rfl⟩
     have hbq : Below wa.heap.size wa wp := by rw [hwq]; exact below_drewN' HBX.out _
     have HBP := Lib.hid hbq
     have HZQ := Lib.hid (HZA.out.trans (hbq.mono HZA.out.size))
     rw [← hwq]
     have l0 := LCA.out wp hbq
     clear hwq hbq
     obtain ⟨b', o', e', hc'⟩ := (HO.out wp HBP.out).str (show k < o.length by rw [← HOL.out]; exact hkn)
     cases e'
     have q0 := hc' k (by rw [← HOL.out]; exact hkn)
     rw [Nat.zero_add] at q0
     clear hc'
     rw [HEQ.out] at q0
     go_wp2_with fail
     go_quiet (fail)
     clear l0 q0
     obtain ⟨wq, hwq⟩ : ∃ wq, wq = wp.drewN nq := ⟨_, rfl⟩
     have hbq : Below wa.heap.size wa wq := by rw [hwq]; exact below_drewN' HBP.out _
     have HBQ := Lib.hid hbq
     have HZQ := Lib.hid (HZA.out.trans (hbq.mono HZA.out.size))
     rw [← hwq]
     have l0 := LCA.out wq hbq
     clear hwq hbq
     go_wp2_with fail
     go_roundw
     case rel => exact ⟨i + 1, g0, c0, by omega, by go_num, by rw [HNX.out, HPUT.out, HOL.out], by rw [HNX.out, HPUT.out]; exact owns_below HOW.out HBQ.out (Nat.le_refl _), HZQ.out⟩
     case measure => simp [intOf]; omega
    have HPUT := Lib.hid (show putS o s = o.take k ++ [s] ++ o.drop k from by
     unfold putS
     rw [← HLOW.out, if_pos (.inr he)])
    obtain ⟨y, hy⟩ : ∃ y, y = o.getD k default := ⟨_, rfl⟩
    rw [← hy] at q0 he hless
    have HYE := Lib.hid hy
    have hbl : Op.bytesLess y.toList s.toList = false := hless
    have hee := str_ne he
    have hkn2 : ((k : Int) == (n0 : Int)) = false := by rw [beq_eq_false_iff_ne]; omega
    clear hless he hy
    go_wp2_with fail
    go_quiet (fail)
    clear l0 q0
    obtain ⟨wp, hwq⟩ : ∃ wp, wp = wr.drewN nq := ⟨_, rfl⟩
    have hbq : Below wa.heap.size wa wp := by rw [hwq]; exact below_drewN' HBX.out _
    have HBP := Lib.hid hbq
    have HZQ := Lib.hid (HZA.out.trans (hbq.mono HZA.out.size))
    rw [← hwq]
    have l0 := LCA.out wp hbq
    clear hwq hbq
    obtain ⟨b', o', e', hc'⟩ := (HO.out wp HBP.out).str (show k < o.length by rw [← HOL.out]; exact hkn)
    cases e'
    have q0 := hc' k (by rw [← HOL.out]; exact hkn)
    rw [Nat.zero_add] at q0
    clear hc'
    rw [← HYE.out] at q0
    go_wp2_with fail
    go_quiet (fail)
    clear l0 q0
    obtain ⟨wq, hwq⟩ : ∃ wq, wq = wp.drewN nq := ⟨_, rfl⟩
    have hbq : Below wa.heap.size wa wq := by rw [hwq]; exact below_drewN' HBP.out _
    have HBQ := Lib.hid hbq
    have HZQ := Lib.hid (HZA.out.trans (hbq.mono HZA.out.size))
    rw [← hwq]
    have l0 := LCA.out wq hbq
    clear hwq hbq
    have LC := Lib.hid l0
    clear l0 b0 b1 b2 b3
    go_wp2_with fail
    have d0 : (0 : Int) ≤ (i : Int) := by omega
    have d1 : (i : Int) < (l.length : Int) := by omega
    have d2 : (0 : Int) ≤ (k : Int) := by omega
    have d3 : (k : Int) ≤ (n0 : Int) := by omega
    have d4 : (k : Int) ≤ (c0 : Int) := by omega
    obtain ⟨pre, hpre⟩ : ∃ pre, pre = strs (o.take k) := ⟨_, rfl⟩
    obtain ⟨post, hpost⟩ : ∃ post, post = strs (o.drop k) := ⟨_, rfl⟩
    have hol := HOL.out
    have hpl : pre.length = k := by rw [hpre, strs, List.length_map, List.length_take]; omega
    have hql : post.length = n0 - k := by rw [hpost, strs, List.length_map, List.length_drop]; omega
    have HPRE := Lib.hid (show ∀ W, Below wq.heap.size wq W → Cells W (some ⟨g0, 0, none⟩) pre from fun W hb => by
     rw [hpre, strs, List.map_take]; exact cells_take0 (HO.out W (HBQ.out.trans (hb.mono HBQ.out.size))) k)
    have HPOST := Lib.hid (show ∀ W, Below wq.heap.size wq W → Cells W (some ⟨g0, k, none⟩) post from fun W hb => by
     rw [hpost, strs, List.map_drop]; have h := cells_drop0 (HO.out W (HBQ.out.trans (hb.mono HBQ.out.size))) k; rw [Nat.zero_add] at h; exact h)
    have HP1 := Lib.hid (show ∀ u ∈ pre, u.oneCell' = true from by rw [hpre]; exact strs_one1 _)
    have HP2 := Lib.hid (show ∀ u ∈ post, u.oneCell' = true from by rw [hpost]; exact strs_one1 _)
    have HRES := Lib.hid (show pre ++ [Value.string s] ++ post = strs (putS o s) ∧ pre.length + 1 + post.length = (putS o s).length from by
     rw [HPUT.out, hpre, hpost]
     refine ⟨by simp [strs], by simp [strs]; omega⟩)
    clear hpre hpost HPUT hol
    refine wp_region_fill (by kernel_rfl) [some 45, some 46, some 47, some 48, some 49, some 50, some 51, some 52, some 53, some 54, some 55, some 56, some 57, some 58, some 59, some 3] (fun q v => match q with | 0 => ∃ gg, v = .slice (some ⟨gg, 0, none⟩) 0 0 | 1 => v = .slice (some ⟨g0, 0, none⟩) n0 c0 | 2 => v = .int .i64 (k : Int) | 3 => v = .slice (some ⟨g0, 0, none⟩) k c0 | 4 => True | 5 => v = .slice (some ⟨b, o1, none⟩) l.length c | 6 => v = .int .i64 (i : Int) | 7 => v = .pointer (some ⟨b, o1 + i, none⟩) | 8 => v = .string s | 9 => ∃ gg, v = .slice (some ⟨gg, 0, none⟩) 1 1 | 10 => True | 11 => v = .slice (some ⟨g0, 0, none⟩) n0 c0 | 12 => v = .int .i64 (k : Int) | 13 => ∃ PP c2, v = .slice PP (n0 - k) c2 ∧ (n0 = k ∨ PP = some ⟨g0, k, none⟩) | 14 => True | 15 => True | _ => True) (fun L V W => InsF 9 wq pre post (.string s) (L 0) (L 4) (L 9) (L 10) (L 14) (V 0) (V 4) (V 9) (V 10) (V 14) W ∧ (L 15 = true → V 15 = V 14)) (by kernel_rfl) (by kernel_rfl) ?h10 ?s1t ?f1i
    case h10 => exact fun V => ⟨InsF.start, fun h => (nomatch h)⟩
    case s1t =>
     as_aux_lemma =>
      intro L V act W q oo hJ hC hL ho hd K3 hK3
      match q, ho with
      | 0, ho =>
       cases ho
       have n4 : L 4 = false := dc_no hC hL (by kernel_rfl)
       have n10 : L 10 = false := dc_no hC hL (by kernel_rfl)
       have n14 : L 14 = false := dc_no hC hL (by kernel_rfl)
       have hF := hJ.f
       clear hd
       rw [hL] at hF
       have HH := Lib.hid (And.intro (hF.1.one n4 n10 n14) hF.2)
       clear hJ hC hF
       go_simp
       exact hK3 _ _ ⟨_, rfl⟩ (by simpa [upd, updV] using HH.out)
      | 1, ho | 11, ho =>
       cases ho
       have n15 : L 15 = false := dc_no hC hL (by kernel_rfl)
       have a3 : act.tmps[3]? = some (.slice (some ⟨g0, 0, none⟩) n0 c0) := hJ.old (qa := 15) rfl n15
       have hF := hJ.f
       have HF := Lib.hid hF
       clear hJ hC hd hF
       go_simp
       exact hK3 _ _ rfl HF.out
      | 2, ho | 12, ho =>
       cases ho
       have a5 : act.tmps[5]? = some _ := hJ.outN 5 (by decide)
       have hF := hJ.f
       have HF := Lib.hid hF
       clear hJ hC hd hF
       go_simp
       exact hK3 _ _ rfl HF.out
      | 3, ho =>
       cases ho
       simp [Region.binds] at hd
       have v1 := hJ.val (by simp [hd] : L 1 = true) rfl fun _ h => h
       have v2 := hJ.val (by simp [hd] : L 2 = true) rfl fun _ h => h
       have hF := hJ.f
       have HF := Lib.hid hF
       clear hJ hC hd hF
       go_simp
       exact hK3 _ _ rfl HF.out
      | 4, ho =>
       cases ho
       simp [Region.binds] at hd
       have l0 : L 0 = true := by simp [hd]
       have v0 := hJ.has 0 45 l0 rfl
       obtain ⟨gg, e0⟩ := (hJ.s 0 l0 : ∃ gg, V 0 = .slice (some ⟨gg, 0, none⟩) 0 0)
       rw [e0] at v0
       have v3 := hJ.val (by simp [hd] : L 3 = true) rfl fun _ h => h
       have n10 : L 10 = false := dc_no hC hL (by kernel_rfl)
       have n14 : L 14 = false := dc_no hC hL (by kernel_rfl)
       have hF := hJ.f
       clear hd
       rw [l0, hL] at hF
       have vs := hJ.has 0 45 l0 rfl
       refine step_appC el_strG rfl (.tmp 45) (.tmp 48) rfl wq.heap.size (V 0) 0 [] (by simp [Act.eval, vs]) (hF.1.r0 rfl rfl) (some ⟨g0, 0, none⟩) k c0 pre (by simp [Act.eval, v3]) (by omega) (HPRE.out W hF.1.bel) HP1.out (by omega) hF.1.size ?_
       intro v' W' ho hk hm
       rw [List.nil_append, Nat.zero_add, ← hpl] at ho
       have h := And.intro (hF.1.two n10 n14 ho hk hm) hF.2
       exact hK3 _ _ trivial (by simpa [upd, updV, l0] using h)
      | 5, ho =>
       cases ho
       have a0 : act.tmps[0]? = some _ := hJ.outN 0 (by decide)
       have hF := hJ.f
       have HF := Lib.hid hF
       clear hJ hC hd hF
       go_simp
       exact hK3 _ _ rfl HF.out
      | 6, ho =>
       cases ho
       have a4 : act.tmps[4]? = some _ := hJ.outN 4 (by decide)
       have hF := hJ.f
       have HF := Lib.hid hF
       clear hJ hC hd hF
       go_simp
       exact hK3 _ _ rfl HF.out
      | 7, ho =>
       cases ho
       simp [Region.binds] at hd
       have v5 := hJ.val (by simp [hd] : L 5 = true) rfl fun _ h => h
       have v6 := hJ.val (by simp [hd] : L 6 = true) rfl fun _ h => h
       have hF := hJ.f
       have HF := Lib.hid hF
       clear hJ hC hd hF
       go_simp
       exact hK3 _ _ rfl HF.out
      | 8, ho =>
       cases ho
       simp [Region.binds] at hd
       have v7 := hJ.val (by simp [hd] : L 7 = true) rfl fun _ h => h
       have hF := hJ.f
       have c0W := cell_below hF.1.bel LC.out (lt_of_cell LC.out)
       have HF := Lib.hid hF
       clear hJ hC hd hF
       go_simp
       exact hK3 _ _ rfl HF.out
      | 9, ho =>
       cases ho
       simp [Region.binds] at hd
       have v8 := hJ.val (by simp [hd] : L 8 = true) rfl fun _ h => h
       have n10 : L 10 = false := dc_no hC hL (by kernel_rfl)
       have n14 : L 14 = false := dc_no hC hL (by kernel_rfl)
       have hF := hJ.f
       clear hd
       rw [hL] at hF
       have HH := Lib.hid (And.intro (hF.1.lit n10 n14) hF.2)
       clear hJ hC hF
       go_simp
       exact hK3 _ _ ⟨_, rfl⟩ (by simpa [upd, updV] using HH.out)
      | 10, ho =>
       cases ho
       simp [Region.binds] at hd
       have l4 : L 4 = true := by simp [hd]
       have l9 : L 9 = true := by simp [hd]
       have v9 := hJ.has 9 54 l9 rfl
       obtain ⟨gg, e9⟩ := (hJ.s 9 l9 : ∃ gg, V 9 = .slice (some ⟨gg, 0, none⟩) 1 1)
       rw [e9] at v9
       have n14 : L 14 = false := dc_no hC hL (by kernel_rfl)
       have hF := hJ.f
       clear hd
       rw [l4, l9, hL] at hF
       have vs := hJ.has 4 49 l4 rfl
       obtain ⟨gl, el, hgl, _, _, _⟩ := hF.1.l2 rfl rfl
       have vx := hJ.has 9 54 l9 rfl
       rw [el] at vx
       refine step_appC el_strG rfl (.tmp 49) (.tmp 54) rfl wq.heap.size (V 4) pre.length pre (by simp [Act.eval, vs]) (hF.1.r1 rfl rfl) (some ⟨gl, 0, none⟩) 1 1 [.string s] (by simp [Act.eval, vx]) rfl (cellsG (cs := [.string s]) hgl) (one1 rfl) (by omega) hF.1.size ?_
       intro v' W' ho hk hm
       have h := And.intro (hF.1.three n14 ho hk) hF.2
       exact hK3 _ _ trivial (by simpa [upd, updV, l4, l9] using h)
      | 13, ho =>
       cases ho
       simp [Region.binds] at hd
       have v11 := hJ.val (by simp [hd] : L 11 = true) rfl fun _ h => h
       have v12 := hJ.val (by simp [hd] : L 12 = true) rfl fun _ h => h
       have hF := hJ.f
       clear hd
       have HF := Lib.hid hF
       clear hJ hC hF
       by_cases hck : c0 = k
       ·have hnk : n0 = k := by omega
        have h0 : n0 - k = 0 := by omega
        have hk1 : ((k : Int) == (c0 : Int)) = true := by rw [hck]; exact beq_self_eq_true _
        have hk3 : (n0 : Int) = (k : Int) := by omega
        go_simp
        exact hK3 _ _ ⟨some ⟨g0, 0, none⟩, 0, by first | rfl | rw [h0] | simp [h0], .inl hnk⟩ HF.out
       have hck2 : ¬ k = c0 := fun h => hck h.symm
       have hke : ((k : Int) == (c0 : Int)) = false := by rw [beq_eq_false_iff_ne]; omega
       go_simp
       exact hK3 _ _ ⟨some ⟨g0, k, none⟩, c0 - k, by first | rfl | rw [Nat.sub_self], .inr rfl⟩ HF.out
      | 14, ho =>
       cases ho
       simp [Region.binds] at hd
       have l10 : L 10 = true := by simp [hd]
       have l13 : L 13 = true := by simp [hd]
       have v13 := hJ.has 13 58 l13 rfl
       obtain ⟨PP, c2, e13, hs13⟩ := (hJ.s 13 l13 : ∃ PP c2, V 13 = .slice PP (n0 - k) c2 ∧ (n0 = k ∨ PP = some ⟨g0, k, none⟩))
       rw [e13] at v13
       have hF := hJ.f
       clear hd
       have l4 : L 4 = true := by
        have c10 := hC 10 _ rfl l10
        simp [Region.binds] at c10
        simp [c10]
       have n15 : L 15 = false := dc_no hC hL (by kernel_rfl)
       rw [l10, hL] at hF
       have vs := hJ.has 10 55 l10 rfl
       have hcs : Cells W PP post := by
        rcases hs13 with h0 | h0
        ·have : post = [] := List.length_eq_zero_iff.1 (by omega)
         rw [this]; exact fun j u hj => by simp at hj
        rw [h0]; exact HPOST.out W hF.1.bel
       refine step_appC el_strG rfl (.tmp 55) (.tmp 58) rfl wq.heap.size (V 10) (pre.length + 1) (pre ++ [.string s]) (by simp [Act.eval, vs]) (hF.1.r3 rfl rfl) PP (n0 - k) c2 post (by simp [Act.eval, v13]) (by omega) hcs HP2.out (by omega) hF.1.size ?_
       intro v' W' ho hk hm
       rw [← hql] at ho
       have h := And.intro (hF.1.four l4 ho hk) (show L 15 = true → V 15 = v' from fun h => by rw [n15] at h; cases h)
       exact hK3 _ _ trivial (by simpa [upd, updV, l10] using h)
      | 15, ho =>
       cases ho
       simp [Region.binds] at hd
       have l14 : L 14 = true := by simp [hd]
       have hF := hJ.f
       clear hd
       have va := hJ.has 14 59 l14 rfl
       have HF := Lib.hid hF
       clear hJ hC hF
       go_simp
       exact hK3 _ _ trivial ⟨HF.out.1, fun _ => rfl⟩
      | q + 16, ho => simp at ho
    intro L V W hL hV hF
    have l0 := hL 0 (by decide)
    have l1 := hL 1 (by decide)
    have l2 := hL 2 (by decide)
    have l3 := hL 3 (by decide)
    have l4 := hL 4 (by decide)
    have l5 := hL 5 (by decide)
    have l6 := hL 6 (by decide)
    have l7 := hL 7 (by decide)
    have l8 := hL 8 (by decide)
    have l9 := hL 9 (by decide)
    have l10 := hL 10 (by decide)
    have l11 := hL 11 (by decide)
    have l12 := hL 12 (by decide)
    have l13 := hL 13 (by decide)
    have l14 := hL 14 (by decide)
    have l15 := hL 15 (by decide)
    clear hL
    obtain ⟨gg0, v0⟩ : ∃ gg, V 0 = .slice (some ⟨gg, 0, none⟩) 0 0 := hV 0 (by decide)
    have v1 : V 1 = _ := hV 1 (by decide)
    have v2 : V 2 = _ := hV 2 (by decide)
    have v3 : V 3 = _ := hV 3 (by decide)
    have v5 : V 5 = _ := hV 5 (by decide)
    have v6 : V 6 = _ := hV 6 (by decide)
    have v7 : V 7 = _ := hV 7 (by decide)
    have v8 : V 8 = _ := hV 8 (by decide)
    obtain ⟨gg9, v9⟩ : ∃ gg, V 9 = .slice (some ⟨gg, 0, none⟩) 1 1 := hV 9 (by decide)
    have v11 : V 11 = _ := hV 11 (by decide)
    have v12 : V 12 = _ := hV 12 (by decide)
    obtain ⟨PP13, c213, v13, hs13⟩ : ∃ PP c2, V 13 = .slice PP (n0 - k) c2 ∧ (n0 = k ∨ PP = some ⟨g0, k, none⟩) := hV 13 (by decide)
    clear hV
    have hr := hF.1.r4 l14
    have hbl := hF.1.bel
    have vqa := hF.2 l15
    clear hF l0 l1 l2 l3 l4 l5 l6 l7 l8 l9 l10 l11 l12 l13 l14 l15
    rw [HRES.out.1, HRES.out.2, ← HNX.out] at hr
    obtain ⟨g', c', hv', _⟩ := own_ptr hr (by rw [HNX.out]; have := HRES.out.2; omega)
    rw [hv'] at hr vqa
    have HR := Lib.hid (owns_mono hr (by have := HZQ.out.size; exact this))
    have HBL := Lib.hid (HZQ.out.trans (hbl.mono HZQ.out.size))
    clear hr hbl
    simp only [layV, List.setIfInBounds_toArray, List.set_cons_zero, List.set_cons_succ, v0, v1, v2, v3, v5, v6, v7, v8, v9, v11, v12, v13]
    simp only [vqa]
    go_wp2_with fail
    go_roundw
    case rel => exact ⟨i + 1, g', c', by omega, by go_num, rfl, HR.out, HBL.out⟩
    case measure => simp [intOf]; omega
   have HN := Lib.hid (show ∀ j, j < k + 1 → lessS (o.getD j default) s = true from fun j hj => by
    rcases Nat.lt_succ_iff_lt_or_eq.1 hj with h | h
    ·exact HALL.out j h
    rw [h]; exact hless)
   obtain ⟨y, hy⟩ : ∃ y, y = o.getD k default := ⟨_, rfl⟩
   rw [← hy] at q0 hless
   have hbl : Op.bytesLess y.toList s.toList = true := hless
   clear hless hy
   go_wp2_with fail
   go_quiet (fail)
   go_wp2_with fail
   go_roundw
   case rel => exact ⟨k + 1, by omega, by go_num, HN.out, below_drewN' HBX.out _⟩
   case measure => simp [intOf]; omega
  obtain rfl : k = n0 := by omega
  have HPUT := Lib.hid (show putS o s = o.take k ++ [s] ++ o.drop k from by
   have hl : k = lowN s o := low_of (by rw [← HOL.out]; exact Nat.le_refl _) HALL.out (fun h => by have := HOL.out; omega)
   unfold putS
   rw [← hl, if_pos (.inl HOL.out)])
  clear hbx
  go_wp2_with fail
  go_quiet (fail)
  clear l0
  obtain ⟨wp, hwq⟩ : ∃ wp, wp = wr.drewN nq := ⟨_, rfl⟩
  have hbq : Below wa.heap.size wa wp := by rw [hwq]; exact below_drewN' HBX.out _
  have HBP := Lib.hid hbq
  have HZQ := Lib.hid (HZA.out.trans (hbq.mono HZA.out.size))
  rw [← hwq]
  have l0 := LCA.out wp hbq
  clear hwq hbq
  go_wp2_with fail
  go_quiet (fail)
  clear l0
  obtain ⟨wq, hwq⟩ : ∃ wq, wq = wp.drewN nq := ⟨_, rfl⟩
  have hbq : Below wa.heap.size wa wq := by rw [hwq]; exact below_drewN' HBP.out _
  have HBQ := Lib.hid hbq
  have HZQ := Lib.hid (HZA.out.trans (hbq.mono HZA.out.size))
  rw [← hwq]
  have l0 := LCA.out wq hbq
  clear hwq hbq
  have LC := Lib.hid l0
  clear l0 b0 b2 b3
  go_wp2_with fail
  have d0 : (0 : Int) ≤ (i : Int) := by omega
  have d1 : (i : Int) < (l.length : Int) := by omega
  have d2 : (0 : Int) ≤ (k : Int) := by omega
  have d3 : (k : Int) ≤ (k : Int) := by omega
  have d4 : (k : Int) ≤ (c0 : Int) := by omega
  obtain ⟨pre, hpre⟩ : ∃ pre, pre = strs (o.take k) := ⟨_, rfl⟩
  obtain ⟨post, hpost⟩ : ∃ post, post = strs (o.drop k) := ⟨_, rfl⟩
  have hol := HOL.out
  have hpl : pre.length = k := by rw [hpre, strs, List.length_map, List.length_take]; omega
  have hql : post.length = k - k := by rw [hpost, strs, List.length_map, List.length_drop]; omega
  have HPRE := Lib.hid (show ∀ W, Below wq.heap.size wq W → Cells W (some ⟨g0, 0, none⟩) pre from fun W hb => by
   rw [hpre, strs, List.map_take]; exact cells_take0 (HO.out W (HBQ.out.trans (hb.mono HBQ.out.size))) k)
  have HPOST := Lib.hid (show ∀ W, Below wq.heap.size wq W → Cells W (some ⟨g0, k, none⟩) post from fun W hb => by
   rw [hpost, strs, List.map_drop]; have h := cells_drop0 (HO.out W (HBQ.out.trans (hb.mono HBQ.out.size))) k; rw [Nat.zero_add] at h; exact h)
  have HP1 := Lib.hid (show ∀ u ∈ pre, u.oneCell' = true from by rw [hpre]; exact strs_one1 _)
  have HP2 := Lib.hid (show ∀ u ∈ post, u.oneCell' = true from by rw [hpost]; exact strs_one1 _)
  have HRES := Lib.hid (show pre ++ [Value.string s] ++ post = strs (putS o s) ∧ pre.length + 1 + post.length = (putS o s).length from by
   rw [HPUT.out, hpre, hpost]
   refine ⟨by simp [strs], by simp [strs]; omega⟩)
  clear hpre hpost HPUT hol
  refine wp_region_fill (by kernel_rfl) [some 45, some 46, some 47, some 48, some 49, some 50, some 51, some 52, some 53, some 54, some 55, some 56, some 57, some 58, some 59, some 3] (fun q v => match q with | 0 => ∃ gg, v = .slice (some ⟨gg, 0, none⟩) 0 0 | 1 => v = .slice (some ⟨g0, 0, none⟩) k c0 | 2 => v = .int .i64 (k : Int) | 3 => v = .slice (some ⟨g0, 0, none⟩) k c0 | 4 => True | 5 => v = .slice (some ⟨b, o1, none⟩) l.length c | 6 => v = .int .i64 (i : Int) | 7 => v = .pointer (some ⟨b, o1 + i, none⟩) | 8 => v = .string s | 9 => ∃ gg, v = .slice (some ⟨gg, 0, none⟩) 1 1 | 10 => True | 11 => v = .slice (some ⟨g0, 0, none⟩) k c0 | 12 => v = .int .i64 (k : Int) | 13 => ∃ PP c2, v = .slice PP (k - k) c2 ∧ (k = k ∨ PP = some ⟨g0, k, none⟩) | 14 => True | 15 => True | _ => True) (fun L V W => InsF 9 wq pre post (.string s) (L 0) (L 4) (L 9) (L 10) (L 14) (V 0) (V 4) (V 9) (V 10) (V 14) W ∧ (L 15 = true → V 15 = V 14)) (by kernel_rfl) (by kernel_rfl) ?h20 ?s2t ?f2i
  case h20 => exact fun V => ⟨InsF.start, fun h => (nomatch h)⟩
  case s2t =>
   as_aux_lemma =>
    intro L V act W q oo hJ hC hL ho hd K3 hK3
    match q, ho with
    | 0, ho =>
     cases ho
     have n4 : L 4 = false := dc_no hC hL (by kernel_rfl)
     have n10 : L 10 = false := dc_no hC hL (by kernel_rfl)
     have n14 : L 14 = false := dc_no hC hL (by kernel_rfl)
     have hF := hJ.f
     clear hd
     rw [hL] at hF
     have HH := Lib.hid (And.intro (hF.1.one n4 n10 n14) hF.2)
     clear hJ hC hF
     go_simp
     exact hK3 _ _ ⟨_, rfl⟩ (by simpa [upd, updV] using HH.out)
    | 1, ho | 11, ho =>
     cases ho
     have n15 : L 15 = false := dc_no hC hL (by kernel_rfl)
     have a3 : act.tmps[3]? = some (.slice (some ⟨g0, 0, none⟩) k c0) := hJ.old (qa := 15) rfl n15
     have hF := hJ.f
     have HF := Lib.hid hF
     clear hJ hC hd hF
     go_simp
     exact hK3 _ _ rfl HF.out
    | 2, ho | 12, ho =>
     cases ho
     have a5 : act.tmps[5]? = some _ := hJ.outN 5 (by decide)
     have hF := hJ.f
     have HF := Lib.hid hF
     clear hJ hC hd hF
     go_simp
     exact hK3 _ _ rfl HF.out
    | 3, ho =>
     cases ho
     simp [Region.binds] at hd
     have v1 := hJ.val (by simp [hd] : L 1 = true) rfl fun _ h => h
     have v2 := hJ.val (by simp [hd] : L 2 = true) rfl fun _ h => h
     have hF := hJ.f
     have HF := Lib.hid hF
     clear hJ hC hd hF
     go_simp
     exact hK3 _ _ rfl HF.out
    | 4, ho =>
     cases ho
     simp [Region.binds] at hd
     have l0 : L 0 = true := by simp [hd]
     have v0 := hJ.has 0 45 l0 rfl
     obtain ⟨gg, e0⟩ := (hJ.s 0 l0 : ∃ gg, V 0 = .slice (some ⟨gg, 0, none⟩) 0 0)
     rw [e0] at v0
     have v3 := hJ.val (by simp [hd] : L 3 = true) rfl fun _ h => h
     have n10 : L 10 = false := dc_no hC hL (by kernel_rfl)
     have n14 : L 14 = false := dc_no hC hL (by kernel_rfl)
     have hF := hJ.f
     clear hd
     rw [l0, hL] at hF
     have vs := hJ.has 0 45 l0 rfl
     refine step_appC el_strG rfl (.tmp 45) (.tmp 48) rfl wq.heap.size (V 0) 0 [] (by simp [Act.eval, vs]) (hF.1.r0 rfl rfl) (some ⟨g0, 0, none⟩) k c0 pre (by simp [Act.eval, v3]) (by omega) (HPRE.out W hF.1.bel) HP1.out (by omega) hF.1.size ?_
     intro v' W' ho hk hm
     rw [List.nil_append, Nat.zero_add, ← hpl] at ho
     have h := And.intro (hF.1.two n10 n14 ho hk hm) hF.2
     exact hK3 _ _ trivial (by simpa [upd, updV, l0] using h)
    | 5, ho =>
     cases ho
     have a0 : act.tmps[0]? = some _ := hJ.outN 0 (by decide)
     have hF := hJ.f
     have HF := Lib.hid hF
     clear hJ hC hd hF
     go_simp
     exact hK3 _ _ rfl HF.out
    | 6, ho =>
     cases ho
     have a4 : act.tmps[4]? = some _ := hJ.outN 4 (by decide)
     have hF := hJ.f
     have HF := Lib.hid hF
     clear hJ hC hd hF
     go_simp
     exact hK3 _ _ rfl HF.out
    | 7, ho =>
     cases ho
     simp [Region.binds] at hd
     have v5 := hJ.val (by simp [hd] : L 5 = true) rfl fun _ h => h
     have v6 := hJ.val (by simp [hd] : L 6 = true) rfl fun _ h => h
     have hF := hJ.f
     have HF := Lib.hid hF
     clear hJ hC hd hF
     go_simp
     exact hK3 _ _ rfl HF.out
    | 8, ho =>
     cases ho
     simp [Region.binds] at hd
     have v7 := hJ.val (by simp [hd] : L 7 = true) rfl fun _ h => h
     have hF := hJ.f
     have c0W := cell_below hF.1.bel LC.out (lt_of_cell LC.out)
     have HF := Lib.hid hF
     clear hJ hC hd hF
     go_simp
     exact hK3 _ _ rfl HF.out
    | 9, ho =>
     cases ho
     simp [Region.binds] at hd
     have v8 := hJ.val (by simp [hd] : L 8 = true) rfl fun _ h => h
     have n10 : L 10 = false := dc_no hC hL (by kernel_rfl)
     have n14 : L 14 = false := dc_no hC hL (by kernel_rfl)
     have hF := hJ.f
     clear hd
     rw [hL] at hF
     have HH := Lib.hid (And.intro (hF.1.lit n10 n14) hF.2)
     clear hJ hC hF
     go_simp
     exact hK3 _ _ ⟨_, rfl⟩ (by simpa [upd, updV] using HH.out)
    | 10, ho =>
     cases ho
     simp [Region.binds] at hd
     have l4 : L 4 = true := by simp [hd]
     have l9 : L 9 = true := by simp [hd]
     have v9 := hJ.has 9 54 l9 rfl
     obtain ⟨gg, e9⟩ := (hJ.s 9 l9 : ∃ gg, V 9 = .slice (some ⟨gg, 0, none⟩) 1 1)
     rw [e9] at v9
     have n14 : L 14 = false := dc_no hC hL (by kernel_rfl)
     have hF := hJ.f
     clear hd
     rw [l4, l9, hL] at hF
     have vs := hJ.has 4 49 l4 rfl
     obtain ⟨gl, el, hgl, _, _, _⟩ := hF.1.l2 rfl rfl
     have vx := hJ.has 9 54 l9 rfl
     rw [el] at vx
     refine step_appC el_strG rfl (.tmp 49) (.tmp 54) rfl wq.heap.size (V 4) pre.length pre (by simp [Act.eval, vs]) (hF.1.r1 rfl rfl) (some ⟨gl, 0, none⟩) 1 1 [.string s] (by simp [Act.eval, vx]) rfl (cellsG (cs := [.string s]) hgl) (one1 rfl) (by omega) hF.1.size ?_
     intro v' W' ho hk hm
     have h := And.intro (hF.1.three n14 ho hk) hF.2
     exact hK3 _ _ trivial (by simpa [upd, updV, l4, l9] using h)
    | 13, ho =>
     cases ho
     simp [Region.binds] at hd
     have v11 := hJ.val (by simp [hd] : L 11 = true) rfl fun _ h => h
     have v12 := hJ.val (by simp [hd] : L 12 = true) rfl fun _ h => h
     have hF := hJ.f
     clear hd
     have HF := Lib.hid hF
     clear hJ hC hF
     by_cases hck : c0 = k
     ·have hnk : k = k := by omega
      have h0 : k - k = 0 := by omega
      have hk1 : ((k : Int) == (c0 : Int)) = true := by rw [hck]; exact beq_self_eq_true _
      have hk3 : (k : Int) = (k : Int) := by omega
      go_simp
      exact hK3 _ _ ⟨some ⟨g0, 0, none⟩, 0, by first | rfl | rw [h0] | simp [h0], .inl hnk⟩ HF.out
     have hck2 : ¬ k = c0 := fun h => hck h.symm
     have hke : ((k : Int) == (c0 : Int)) = false := by rw [beq_eq_false_iff_ne]; omega
     go_simp
     exact hK3 _ _ ⟨some ⟨g0, k, none⟩, c0 - k, by first | rfl | rw [Nat.sub_self], .inr rfl⟩ HF.out
    | 14, ho =>
     cases ho
     simp [Region.binds] at hd
     have l10 : L 10 = true := by simp [hd]
     have l13 : L 13 = true := by simp [hd]
     have v13 := hJ.has 13 58 l13 rfl
     obtain ⟨PP, c2, e13, hs13⟩ := (hJ.s 13 l13 : ∃ PP c2, V 13 = .slice PP (k - k) c2 ∧ (k = k ∨ PP = some ⟨g0, k, none⟩))
     rw [e13] at v13
     have hF := hJ.f
     clear hd
     have l4 : L 4 = true := by
      have c10 := hC 10 _ rfl l10
      simp [Region.binds] at c10
      simp [c10]
     have n15 : L 15 = false := dc_no hC hL (by kernel_rfl)
     rw [l10, hL] at hF
     have vs := hJ.has 10 55 l10 rfl
     have hcs : Cells W PP post := by
      rcases hs13 with h0 | h0
      ·have : post = [] := List.length_eq_zero_iff.1 (by omega)
       rw [this]; exact fun j u hj => by simp at hj
      rw [h0]; exact HPOST.out W hF.1.bel
     refine step_appC el_strG rfl (.tmp 55) (.tmp 58) rfl wq.heap.size (V 10) (pre.length + 1) (pre ++ [.string s]) (by simp [Act.eval, vs]) (hF.1.r3 rfl rfl) PP (k - k) c2 post (by simp [Act.eval, v13]) (by omega) hcs HP2.out (by omega) hF.1.size ?_
     intro v' W' ho hk hm
     rw [← hql] at ho
     have h := And.intro (hF.1.four l4 ho hk) (show L 15 = true → V 15 = v' from fun h => by rw [n15] at h; cases h)
     exact hK3 _ _ trivial (by simpa [upd, updV, l10] using h)
    | 15, ho =>
     cases ho
     simp [Region.binds] at hd
     have l14 : L 14 = true := by simp [hd]
     have hF := hJ.f
     clear hd
     have va := hJ.has 14 59 l14 rfl
     have HF := Lib.hid hF
     clear hJ hC hF
     go_simp
     exact hK3 _ _ trivial ⟨HF.out.1, fun _ => rfl⟩
    | q + 16, ho => simp at ho
  intro L V W hL hV hF
  have l0 := hL 0 (by decide)
  have l1 := hL 1 (by decide)
  have l2 := hL 2 (by decide)
  have l3 := hL 3 (by decide)
  have l4 := hL 4 (by decide)
  have l5 := hL 5 (by decide)
  have l6 := hL 6 (by decide)
  have l7 := hL 7 (by decide)
  have l8 := hL 8 (by decide)
  have l9 := hL 9 (by decide)
  have l10 := hL 10 (by decide)
  have l11 := hL 11 (by decide)
  have l12 := hL 12 (by decide)
  have l13 := hL 13 (by decide)
  have l14 := hL 14 (by decide)
  have l15 := hL 15 (by decide)
  clear hL
  obtain ⟨gg0, v0⟩ : ∃ gg, V 0 = .slice (some ⟨gg, 0, none⟩) 0 0 := hV 0 (by decide)
  have v1 : V 1 = _ := hV 1 (by decide)
  have v2 : V 2 = _ := hV 2 (by decide)
  have v3 : V 3 = _ := hV 3 (by decide)
  have v5 : V 5 = _ := hV 5 (by decide)
  have v6 : V 6 = _ := hV 6 (by decide)
  have v7 : V 7 = _ := hV 7 (by decide)
  have v8 : V 8 = _ := hV 8 (by decide)
  obtain ⟨gg9, v9⟩ : ∃ gg, V 9 = .slice (some ⟨gg, 0, none⟩) 1 1 := hV 9 (by decide)
  have v11 : V 11 = _ := hV 11 (by decide)
  have v12 : V 12 = _ := hV 12 (by decide)
  obtain ⟨PP13, c213, v13, hs13⟩ : ∃ PP c2, V 13 = .slice PP (k - k) c2 ∧ (k = k ∨ PP = some ⟨g0, k, none⟩) := hV 13 (by decide)
  clear hV
  have hr := hF.1.r4 l14
  have hbl := hF.1.bel
  have vqa := hF.2 l15
  clear hF l0 l1 l2 l3 l4 l5 l6 l7 l8 l9 l10 l11 l12 l13 l14 l15
  rw [HRES.out.1, HRES.out.2, ← HNX.out] at hr
  obtain ⟨g', c', hv', _⟩ := own_ptr hr (by rw [HNX.out]; have := HRES.out.2; omega)
  rw [hv'] at hr vqa
  have HR := Lib.hid (owns_mono hr (by have := HZQ.out.size; exact this))
  have HBL := Lib.hid (HZQ.out.trans (hbl.mono HZQ.out.size))
  clear hr hbl
  simp only [layV, List.setIfInBounds_toArray, List.set_cons_zero, List.set_cons_succ, v0, v1, v2, v3, v5, v6, v7, v8, v9, v11, v12, v13]
  simp only [vqa]
  go_wp2_with fail
  go_roundw
  case rel => exact ⟨i + 1, g', c', by omega, by go_num, rfl, HR.out, HBL.out⟩
  case measure => simp [intOf]; omega
 obtain rfl : i = l.length := by omega
 have HE := Lib.hid (show o = sortS l from by rw [ho, List.take_length])
 rw [ho, List.take_length] at hown
 have HOWN := Lib.hid hown
 rw [List.take_length]
 clear hown ho hn0 HOE HO HOW hlen
 go_wp2_with fail
 go_ret
 exact ⟨_, _, rfl, HOWN.out, HZA.out⟩

end Go.Proofs.YtijkdpdmclkmlaaGreatDoor
