/- Marks: memory of a call's own is written over with numbers that rise, and asked for them. []int and [][]int. -/
import Derived.Test.YtdgnhfhaaghoaaaGreatDoorProg
import Derived.Test.YtdgnhfhaaghoaaaGreatDoorJ10
import Derived.Handy
set_option linter.unusedVariables false
set_option linter.unusedVariables false
namespace Go.Proofs.YtdgnhfhaaghoaaaGreatDoor
open Go.RowKit

/-- n numbers from k on. -/
def up (k : Int) (n : Nat) : List Int := (List.range n).map fun (i : Nat) => k + (i : Int)
theorem up_length (k : Int) (n : Nat) : (up k n).length = n := by simp [up]
theorem up_getD (k : Int) (n j : Nat) (h : j < n) : (up k n).getD j 0 = k + (j : Int) := by simp [up, List.getD, h]
/-- The first i numbers are marked. -/
def upTo (k : Int) (xs : List Int) (i : Nat) : List Int := up k i ++ xs.drop i
theorem upTo_length (k : Int) (xs : List Int) (i : Nat) (h : i ≤ xs.length) : (upTo k xs i).length = xs.length := by simp [upTo, up_length]; omega
theorem upTo_zero (k : Int) (xs : List Int) : upTo k xs 0 = xs := by simp [upTo, up]
theorem upTo_all (k : Int) (xs : List Int) : upTo k xs xs.length = up k xs.length := by simp [upTo]
theorem up_succ (k : Int) (n : Nat) : up k (n + 1) = up k n ++ [k + (n : Int)] := by simp [up, List.range_succ]
theorem upTo_set (k : Int) (xs : List Int) (i : Nat) (h : i < xs.length) : (ints (upTo k xs i)).set i (.int .i64 (k + (i : Int))) = ints (upTo k xs (i + 1)) := by
  have e : (upTo k xs i).set i (k + (i : Int)) = upTo k xs (i + 1) := by
    unfold upTo
    rw [List.set_append_right _ _ (by rw [up_length]; exact Nat.le_refl _), up_length, Nat.sub_self, List.drop_eq_getElem_cons h, up_succ]
    simp only [List.set_cons_zero, List.append_assoc, List.singleton_append]
  rw [← e]
  simp [ints, List.map_set]

set_option maxHeartbeats 1000000 in
theorem markIntS_any (S : Nat → Prop) (v : Value) (xs : List Int) (k : Int) (w : World) (hn : xs.length ≤ 16777216) (hk0 : 0 ≤ k) (hk1 : k ≤ 1099511627776) (hv : Own w S v xs.length (ints xs)) :
    Calls Tryz.prog 22 #[v, .int .i64 k] w fun e w' => e = .returned (.int .i64 (k + xs.length)) ∧ Own w' S v xs.length (ints (up k xs.length)) ∧ Kept S w w' := by
  obtain ⟨A, c, e, _⟩ := id hv
  subst e
  have hv0 : Own w S (.slice A xs.length c) xs.length (ints (upTo k xs 0)) := by rw [upTo_zero]; exact hv
  have HV0 := Lib.hid hv0
  clear hv hv0
  go_enter Tryz.func22, Tryz.ntmps22
  go_wp2_with fail
  go_loopw [1, 5] (fun kk i wr => ∃ j : Nat, j ≤ xs.length ∧ i = .int .i64 j ∧ kk = .int .i64 (k + (j : Int)) ∧ Own wr S (.slice A xs.length c) xs.length (ints (upTo k xs j)) ∧ Kept S w wr)
    (fun _ i _ => xs.length - (intOf i).toNat)
  case atStart => exact ⟨0, Nat.zero_le _, rfl, by simp, HV0.out, Kept.refl _ _⟩
  case round =>
    obtain ⟨j, hj, rfl, rfl, hown, hkept⟩ := hrel
    have HO := Lib.hid hown
    have HK := Lib.hid hkept
    clear hown hkept
    by_cases hlt : j < xs.length
    · have hl : j < (ints (upTo k xs j)).length := by simp [ints, upTo_length _ _ _ hj]; exact hlt
      obtain ⟨g, o, c', e, hg, hc⟩ := HO.out.at_ hl
      cases e
      obtain ⟨h1, h2⟩ := hc j _ (List.getElem?_eq_getElem hl)
      have HN := Lib.hid (HO.out.set j (.int .i64 (k + (j : Int))) rfl hl)
      rw [upTo_set k xs j hlt] at HN
      have HKN := Lib.hid (HK.out.setCell (p := ⟨g, o + j, none⟩) hg (.int .i64 (k + (j : Int))))
      clear hc
      generalize (ints (upTo k xs j))[j] = y at h1
      go_wp2_with fail
      go_roundw
      case rel => exact ⟨j + 1, by omega, by go_num, by go_num, HN.out, HKN.out⟩
      case measure => simp [intOf]; omega
    · obtain rfl : j = xs.length := by omega
      go_wp2_with fail
      go_ret
      exact ⟨rfl, by rw [← upTo_all]; exact HO.out, HK.out⟩

set_option maxHeartbeats 1000000 in
theorem heldIntS_any (A : Option Addr) (c n : Nat) (k : Int) (w : World) (hn : n ≤ 16777216) (hk0 : 0 ≤ k) (hk1 : k ≤ 1099511627776) (hA : Cells w A (ints (up k n))) :
    Calls Tryz.prog 23 #[.slice A n c, .int .i64 k] w fun e w' => e = .returned (.int .i64 (k + n)) ∧ w = w' := by
  go_enter Tryz.func23, Tryz.ntmps23
  go_wp2_with fail
  go_loop [1, 5] (fun kk i => ∃ j : Nat, j ≤ n ∧ i = .int .i64 j ∧ kk = .int .i64 (k + (j : Int)))
    (fun _ i => n - (intOf i).toNat)
  case atStart => exact ⟨0, Nat.zero_le _, rfl, by simp⟩
  case round =>
    obtain ⟨j, hj, rfl, rfl⟩ := hrel
    by_cases hlt : j < n
    · obtain ⟨b, o, rfl, hc⟩ := hA.int (k := j) (by rw [up_length]; exact hlt)
      have hck := hc j (by rw [up_length]; exact hlt)
      rw [up_getD _ _ _ hlt] at hck
      have hne : ((k + (j : Int)) != (k + (j : Int))) = false := by rw [bne_self_eq_false]
      clear hc hA
      go_wp2_with fail
      go_round
      case rel => exact ⟨j + 1, by omega, by go_num, by go_num⟩
      case measure => simp [intOf]; omega
    · obtain rfl : j = n := by omega
      go_wp2_with fail
      go_ret
      exact ⟨rfl, rfl⟩

def total (xss : List (List Int)) : Nat := (xss.map List.length).sum
def marks : Int → List (List Int) → List (List Int)
  | _, [] => []
  | k, xs :: r => up k xs.length :: marks (k + xs.length) r

theorem total_take (xss : List (List Int)) (j : Nat) (h : j < xss.length) : total (xss.take (j + 1)) = total (xss.take j) + xss[j].length := by
  unfold total
  rw [List.take_succ_eq_append_getElem h, List.map_append, List.sum_append]
  simp

theorem total_le (xss : List (List Int)) (j : Nat) : total (xss.take j) ≤ total xss := by
  unfold total
  conv => rhs; rw [← List.take_append_drop j xss]
  rw [List.map_append, List.sum_append]
  omega

theorem marks_length : ∀ (xss : List (List Int)) (k : Int), (marks k xss).length = xss.length
  | [], _ => rfl
  | xs :: r, k => by simp [marks, marks_length r]

theorem marks_at : ∀ (xss : List (List Int)) (k : Int) (i : Nat) (xs : List Int), xss[i]? = some xs → (marks k xss)[i]? = some (up (k + (total (xss.take i) : Nat)) xs.length)
  | [], _, _, _, h => by simp at h
  | ys :: r, k, 0, xs, h => by
    simp at h
    subst h
    simp [marks, total]
  | ys :: r, k, i + 1, xs, h => by
    have := marks_at r (k + ys.length) i xs (by simpa using h)
    simp only [marks, List.getElem?_cons_succ, this]
    congr 2
    simp [total]
    omega

set_option maxRecDepth 100000 in
set_option maxHeartbeats 2000000 in
theorem markIntSS_any (S : Nat → Prop) (v : Value) (xss : List (List Int)) (k : Int) (w : World) (hn : xss.length ≤ 16777216) (hs : Small xss) (hk0 : 0 ≤ k) (hk1 : k + (total xss : Nat) ≤ 1099511627776) (hv : OwnSS w S v xss) :
    Calls Tryz.prog 69 #[v, .int .i64 k] w fun e w' => e = .returned (.int .i64 (k + (total xss : Nat))) ∧ OwnSS w' S v (marks k xss) ∧ Kept S w w' := by
  obtain ⟨vs, S0, T, hout, hvl, hrows, hS0, hT, hdis⟩ := hv
  obtain ⟨A, c, e, _⟩ := id hout
  subst e
  have HVL := Lib.hid hvl
  have HS0 := Lib.hid hS0
  have HT := Lib.hid hT
  have HD := Lib.hid hdis
  have HR0 := Lib.hid hrows
  have HO0 := Lib.hid hout
  clear hvl hS0 hT hdis hrows hout
  go_enter Tryz.func69, Tryz.ntmps69
  go_wp2_with fail
  go_loopw [1, 5] (fun kk i wr => ∃ j : Nat, j ≤ xss.length ∧ i = .int .i64 j ∧ kk = .int .i64 (k + (total (xss.take j) : Nat)) ∧ Own wr S0 (.slice A xss.length c) xss.length vs ∧
      (∀ (i : Nat) u xs, vs[i]? = some u → xss[i]? = some xs → (i < j → Own wr (T i) u xs.length (ints (up (k + (total (xss.take i) : Nat)) xs.length))) ∧ (j ≤ i → Own wr (T i) u xs.length (ints xs))) ∧ Kept S w wr)
    (fun _ i _ => xss.length - (intOf i).toNat)
  case atStart => exact ⟨0, Nat.zero_le _, rfl, by simp [total], HO0.out, fun i u xs h1 h2 => ⟨fun h => by omega, fun _ => HR0.out i u xs h1 h2⟩, Kept.refl _ _⟩
  case round =>
    obtain ⟨j, hj, rfl, rfl, hown, hrows, hkept⟩ := hrel
    have HO := Lib.hid hown
    have HR := Lib.hid hrows
    have HK := Lib.hid hkept
    clear hown hrows hkept
    by_cases hlt : j < xss.length
    · have hjv : j < vs.length := by have := HVL.out; omega
      obtain ⟨g, o, c', e, hg, hc⟩ := HO.out.at_ hjv
      cases e
      have hck := (hc j _ (List.getElem?_eq_getElem hjv)).1
      have hrow := (HR.out j _ _ (List.getElem?_eq_getElem hjv) (List.getElem?_eq_getElem hlt)).2 (Nat.le_refl _)
      have htot := total_take xss j hlt
      have htl := total_le xss j
      have htl2 := total_le xss (j + 1)
      have H := Lib.hid (markIntS_any (T j) _ _ (k + (total (xss.take j) : Nat)) wr (hs _ (List.getElem_mem hlt)) (by omega) (by omega) hrow)
      obtain ⟨A1, c1, e1, _⟩ := hrow
      rw [e1] at hck H
      have HE1 := Lib.hid e1
      have HTOT := Lib.hid htot
      clear e1 hc htot hs
      have hq : k + (total (xss.take j) : Nat) + xss[j].length ≤ 1099511627776 := by have := HTOT.out; omega
      go_wp2_with ((with_reducible refine H.out.mono ?_); rintro e w1 ⟨rfl, hr1, hk1'⟩)
      go_roundw
      case rel =>
        refine ⟨j + 1, by omega, by go_num, by have := HTOT.out; simp only [Value.int.injEq, true_and]; omega, HO.out.kept hk1' (fun b hb h => (HT.out j b h).2 hb), fun i u xs h1 h2 => ⟨fun hi => ?_, fun hi => ?_⟩, HK.out.trans (hk1'.mono (fun b hb => (HT.out j b hb).1))⟩
        · rcases Nat.lt_succ_iff_lt_or_eq.1 hi with h | h
          · exact ((HR.out i u xs h1 h2).1 h).kept hk1' (fun b hb h' => by have := HD.out i j b hb h'; omega)
          · subst h
            rw [List.getElem?_eq_getElem hjv] at h1
            injection h1 with h1
            rw [List.getElem?_eq_getElem hlt] at h2
            injection h2 with h2
            subst h2
            rw [← h1, HE1.out]
            exact hr1
        · exact ((HR.out i u xs h1 h2).2 (by omega)).kept hk1' (fun b hb h' => by have := HD.out i j b hb h'; omega)
      case measure => simp [intOf]; omega
    · obtain rfl : j = xss.length := by omega
      have ht : total (xss.take xss.length) = total xss := by rw [List.take_length]
      rw [ht]
      go_wp2_with fail
      go_ret
      have ho := HO.out
      rw [← marks_length xss k] at ho
      refine ⟨rfl, ⟨vs, S0, T, ?_, by rw [marks_length]; exact HVL.out, fun i u xs h1 h2 => ?_, HS0.out, HT.out, HD.out⟩, HK.out⟩
      · rw [marks_length]; exact HO.out
      · have hi : i < xss.length := by have := (List.getElem?_eq_some_iff.1 h1).1; have := HVL.out; omega
        have h3 := marks_at xss k i _ (List.getElem?_eq_getElem hi)
        rw [h2] at h3
        injection h3 with h3
        subst h3
        have := (HR.out i u _ h1 (List.getElem?_eq_getElem hi)).1 hi
        rw [up_length]
        exact this

set_option maxRecDepth 100000 in
set_option maxHeartbeats 1000000 in
theorem heldIntSS_any (v : Value) (xss : List (List Int)) (k : Int) (w : World) (hn : xss.length ≤ 16777216) (hs : Small xss) (hk0 : 0 ≤ k) (hk1 : k + (total xss : Nat) ≤ 1099511627776) (hv : RSS w v (marks k xss)) :
    Calls Tryz.prog 98 #[v, .int .i64 k] w fun e w' => e = .returned (.int .i64 (k + (total xss : Nat))) ∧ w = w' := by
  obtain ⟨A, c, vs, rfl, _, hvl, hA, hvi⟩ := hv
  rw [marks_length] at hvl
  rw [marks_length]
  have HVL := Lib.hid hvl
  have HVI := Lib.hid hvi
  clear hvl hvi
  go_enter Tryz.func98, Tryz.ntmps98
  go_wp2_with fail
  go_loop [1, 5] (fun kk i => ∃ j : Nat, j ≤ xss.length ∧ i = .int .i64 j ∧ kk = .int .i64 (k + (total (xss.take j) : Nat)))
    (fun _ i => xss.length - (intOf i).toNat)
  case atStart => exact ⟨0, Nat.zero_le _, rfl, by simp [total]⟩
  case round =>
    obtain ⟨j, hj, rfl, rfl⟩ := hrel
    by_cases hlt : j < xss.length
    · have hjv : j < vs.length := by have := HVL.out; omega
      obtain ⟨b, o, rfl, hc⟩ := hA.at_ hjv
      have hck := hc j _ (List.getElem?_eq_getElem hjv)
      obtain ⟨A1, c1, e1, _, hA1⟩ := HVI.out j _ _ (List.getElem?_eq_getElem hjv) (marks_at xss k j _ (List.getElem?_eq_getElem hlt))
      rw [up_length] at e1
      rw [e1] at hck
      have htot := total_take xss j hlt
      have htl := total_le xss j
      have htl2 := total_le xss (j + 1)
      have H := Lib.hid (heldIntS_any A1 c1 xss[j].length (k + (total (xss.take j) : Nat)) w (hs _ (List.getElem_mem hlt)) (by omega) (by omega) hA1)
      have HTOT := Lib.hid htot
      have hq : k + (total (xss.take j) : Nat) + xss[j].length ≤ 1099511627776 := by omega
      have hq0 : 0 ≤ k + (total (xss.take j) : Nat) + xss[j].length := by omega
      clear e1 hc htot hs hA hA1
      go_wp2_with ((with_reducible refine H.out.mono ?_); rintro e w1 ⟨rfl, rfl⟩)
      go_round
      case rel => exact ⟨j + 1, by omega, by go_num, by have := HTOT.out; simp only [Value.int.injEq, true_and]; omega⟩
      case measure => simp [intOf]; omega
    · obtain rfl : j = xss.length := by omega
      have ht : total (xss.take xss.length) = total xss := by rw [List.take_length]
      rw [ht]
      go_wp2_with fail
      go_ret
      exact ⟨rfl, rfl⟩

def trips (k : Int) (n : Nat) : List I3 := (List.range n).map fun (i : Nat) => (k + 3 * (i : Int), k + 3 * (i : Int) + 1, k + 3 * (i : Int) + 2)
theorem trips_length (k : Int) (n : Nat) : (trips k n).length = n := by simp [trips]
theorem trips_succ (k : Int) (n : Nat) : trips k (n + 1) = trips k n ++ [(k + 3 * (n : Int), k + 3 * (n : Int) + 1, k + 3 * (n : Int) + 2)] := by simp [trips, List.range_succ]
theorem trips_at (k : Int) (n i : Nat) (h : i < n) : (trips k n)[i]? = some (k + 3 * (i : Int), k + 3 * (i : Int) + 1, k + 3 * (i : Int) + 2) := by simp [trips, h]

/-- The first i triples are marked. -/
def triTo (k : Int) (l : List I3) (i : Nat) : List Value := (trips k i).flatMap tri ++ (l.drop i).flatMap tri
theorem triTo_zero (k : Int) (l : List I3) : triTo k l 0 = l.flatMap tri := by simp [triTo, trips]
theorem triTo_all (k : Int) (l : List I3) : triTo k l l.length = (trips k l.length).flatMap tri := by simp [triTo]
theorem triTo_len (k : Int) (l : List I3) (i : Nat) (h : i ≤ l.length) : (triTo k l i).length = l.length * 3 := by
  unfold triTo
  rw [List.length_append, tri_len, tri_len, trips_length, List.length_drop]
  omega
theorem triTo_set (k : Int) (l : List I3) (i : Nat) (h : i < l.length) :
    (((triTo k l i).set (i * 3) (.int .i64 (k + 3 * (i : Int)))).set (i * 3 + 1) (.int .i64 (k + 3 * (i : Int) + 1))).set (i * 3 + 2) (.int .i64 (k + 3 * (i : Int) + 2)) = triTo k l (i + 1) := by
  have e3 : ((trips k i).flatMap tri).length = i * 3 := by rw [tri_len, trips_length]
  unfold triTo
  rw [List.drop_eq_getElem_cons h, trips_succ, List.flatMap_append, List.flatMap_cons]
  generalize (trips k i).flatMap tri = P at e3
  rw [List.set_append_right _ _ (by omega), List.set_append_right _ _ (by omega), List.set_append_right _ _ (by omega), e3]
  simp [tri, List.set_cons_succ, show i * 3 + 1 - i * 3 = 1 by omega, show i * 3 + 2 - i * 3 = 2 by omega]

set_option maxRecDepth 100000 in
set_option maxHeartbeats 2000000 in
theorem markIntA3S_any (S : Nat → Prop) (v : Value) (l : List I3) (k : Int) (w : World) (hn : l.length ≤ 16777216) (hk0 : 0 ≤ k) (hk1 : k ≤ 1099511627776) (hv : Own w S v l.length (l.flatMap tri)) :
    Calls Tryz.prog 70 #[v, .int .i64 k] w fun e w' => e = .returned (.int .i64 (k + 3 * (l.length : Int))) ∧ Own w' S v l.length ((trips k l.length).flatMap tri) ∧ Kept S w w' := by
  obtain ⟨A, c, e, _⟩ := id hv
  subst e
  have hv0 : Own w S (.slice A l.length c) l.length (triTo k l 0) := by rw [triTo_zero]; exact hv
  have HV0 := Lib.hid hv0
  clear hv hv0
  go_enter Tryz.func70, Tryz.ntmps70
  go_wp2_with fail
  go_loopw [1, 5] (fun kk i wr => ∃ j : Nat, j ≤ l.length ∧ i = .int .i64 j ∧ kk = .int .i64 (k + 3 * (j : Int)) ∧ Own wr S (.slice A l.length c) l.length (triTo k l j) ∧ Kept S w wr)
    (fun _ i _ => l.length - (intOf i).toNat)
  case atStart => exact ⟨0, Nat.zero_le _, rfl, by simp, HV0.out, Kept.refl _ _⟩
  case round =>
    obtain ⟨j, hj, rfl, rfl, hown, hkept⟩ := hrel
    have HO := Lib.hid hown
    have HK := Lib.hid hkept
    clear hown hkept
    by_cases hlt : j < l.length
    · have hlen := triTo_len k l j hj
      obtain ⟨g, o, c', e, hg, hc⟩ := HO.out.at_ (k := j * 3) (by omega)
      cases e
      obtain ⟨h1, f1⟩ := hc (j * 3) _ (List.getElem?_eq_getElem (by omega))
      obtain ⟨h2, f2⟩ := hc (j * 3 + 1) _ (List.getElem?_eq_getElem (by omega))
      obtain ⟨h3, f3⟩ := hc (j * 3 + 2) _ (List.getElem?_eq_getElem (by omega))
      have HN := Lib.hid (((HO.out.set (j * 3) (.int .i64 (k + 3 * (j : Int))) rfl (by omega)).set (j * 3 + 1) (.int .i64 (k + 3 * (j : Int) + 1)) rfl (by rw [List.length_set]; omega)).set (j * 3 + 2) (.int .i64 (k + 3 * (j : Int) + 2)) rfl (by rw [List.length_set, List.length_set]; omega))
      rw [triTo_set k l j hlt] at HN
      have HKN := Lib.hid (((HK.out.setCell (p := ⟨g, o + j * 3, none⟩) hg (.int .i64 (k + 3 * (j : Int)))).setCell (p := ⟨g, o + (j * 3 + 1), none⟩) hg (.int .i64 (k + 3 * (j : Int) + 1))).setCell (p := ⟨g, o + (j * 3 + 2), none⟩) hg (.int .i64 (k + 3 * (j : Int) + 2)))
      clear hc
      rw [← Nat.add_assoc] at h2 f2 h3 f3
      rw [← Nat.add_assoc, ← Nat.add_assoc] at HN HKN
      generalize (triTo k l j)[j * 3] = y1 at h1
      generalize (triTo k l j)[j * 3 + 1] = y2 at h2
      generalize (triTo k l j)[j * 3 + 2] = y3 at h3
      go_wp2_with fail
      go_rounds 4
      go_roundw
      case rel =>
        have e2 : k + 3 * (j : Int) + 1 + 1 = k + 3 * (j : Int) + 2 := by omega
        exact ⟨j + 1, by omega, by go_num, by go_num, by rw [e2]; exact HN.out, by rw [e2]; exact HKN.out⟩
      case measure => simp [intOf]; omega
    · obtain rfl : j = l.length := by omega
      go_wp2_with fail
      go_ret
      exact ⟨rfl, by rw [← triTo_all]; exact HO.out, HK.out⟩

set_option maxRecDepth 100000 in
set_option maxHeartbeats 1000000 in
theorem heldIntA3S_any (v : Value) (n : Nat) (k : Int) (w : World) (hn : n ≤ 16777216) (hk0 : 0 ≤ k) (hk1 : k ≤ 1099511627776) (hv : RA3 w v (trips k n)) :
    Calls Tryz.prog 99 #[v, .int .i64 k] w fun e w' => e = .returned (.int .i64 (k + 3 * (n : Int))) ∧ w = w' := by
  have hv' := hv
  obtain ⟨A, c, rfl, _, _⟩ := hv
  rw [trips_length] at hv' ⊢
  go_enter Tryz.func99, Tryz.ntmps99
  go_wp2_with fail
  go_loop [1, 5] (fun kk i => ∃ j : Nat, j ≤ n ∧ i = .int .i64 j ∧ kk = .int .i64 (k + 3 * (j : Int)))
    (fun _ i => n - (intOf i).toNat)
  case atStart => exact ⟨0, Nat.zero_le _, rfl, by simp⟩
  case round =>
    obtain ⟨j, hj, rfl, rfl⟩ := hrel
    by_cases hlt : j < n
    · obtain ⟨b, o, c', ev, hc0, hc1, hc2⟩ := hv'.at_ (trips_at k n j hlt)
      rw [trips_length] at ev
      cases ev
      have n0 : ((k + 3 * (j : Int)) != (k + 3 * (j : Int))) = false := by rw [bne_self_eq_false]
      have n1 : ((k + 3 * (j : Int) + 1) != (k + 3 * (j : Int) + 1)) = false := by rw [bne_self_eq_false]
      have n2 : ((k + 3 * (j : Int) + 2) != (k + 3 * (j : Int) + 2)) = false := by rw [bne_self_eq_false]
      clear hv'
      go_wp2_with fail
      go_rounds 4
      go_round
      case rel => exact ⟨j + 1, by omega, by go_num, by go_num⟩
      case measure => simp [intOf]; omega
    · obtain rfl : j = n := by omega
      go_wp2_with fail
      go_ret
      exact ⟨rfl, rfl⟩

def markLab (k : Int) (l : Lab) : Lab := ⟨marks k l.shows, trips (k + (total l.shows : Nat)) l.steps.length⟩
def sizeLab (l : Lab) : Int := (total l.shows : Nat) + 3 * (l.steps.length : Int)

theorem marks_small {xss : List (List Int)} (h : Small xss) (k : Int) : Small (marks k xss) := by
  intro ys hy
  obtain ⟨i, hi, rfl⟩ := List.getElem_of_mem hy
  have hi' : i < xss.length := by rw [marks_length] at hi; exact hi
  have h3 := marks_at xss k i _ (List.getElem?_eq_getElem hi')
  rw [List.getElem?_eq_getElem hi] at h3
  injection h3 with h3
  rw [h3, up_length]
  exact h _ (List.getElem_mem hi')
theorem markLab_small {l : Lab} (h : SmallLab l) (k : Int) : SmallLab (markLab k l) := by
  refine ⟨?_, ?_, marks_small h.2.2 k⟩
  · show (marks k l.shows).length ≤ _
    rw [marks_length]; exact h.1
  · show (trips (k + (total l.shows : Nat)) l.steps.length).length ≤ _
    rw [trips_length]; exact h.2.1

end Go.Proofs.YtdgnhfhaaghoaaaGreatDoor
