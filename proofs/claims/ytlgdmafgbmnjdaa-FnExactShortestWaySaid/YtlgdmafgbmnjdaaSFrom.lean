/- Systems: the reference's steps from a state, walked. -/
import Derived.Test.YtlgdmafgbmnjdaaProg
import Derived.Test.YtlgdmafgbmnjdaaSNext
set_option linter.unusedVariables false
namespace Go.Proofs.Ytlgdmafgbmnjdaa
open Go.RowKit
open Go.Sort (grow)

theorem info_fa : (Try.prog.info? 69).map (fun i => (i.zero, i.size, i.bytes)) = some (some (.agg #[.int .i64 0, .int .i64 0, .int .i64 0]), 3, 24) := by kernel_rfl

def fromL (l : List I3) (p : Int) : List I3 := l.filter (fun s => s.1 == p)
theorem from_next (l : List I3) (p : Int) : (fromL l p).map (fun s => s.2.2) = nextL l p := rfl
theorem from_take {l : List I3} {k : Nat} (p : Int) (h : k < l.length) : fromL (l.take (k + 1)) p = if l[k].1 == p then fromL (l.take k) p ++ [l[k]] else fromL (l.take k) p := by
  unfold fromL
  rw [List.take_succ_eq_append_getElem h, List.filter_append]
  by_cases e : l[k].1 == p <;> simp [e]
theorem from_len (l : List I3) (p : Int) (k : Nat) : (fromL (l.take k) p).length ≤ k := by
  unfold fromL
  exact Nat.le_trans (List.length_filter_le _ _) (by rw [List.length_take]; omega)
theorem from_len' (l : List I3) (p : Int) : (fromL l p).length ≤ l.length := List.length_filter_le _ _
theorem owns_ra3 {w : World} {B : Nat} {e : TypeId} {A : Option Addr} {c : Nat} {l : List I3} (h : w.ownsRow B e 3 (.slice A l.length c) l.length (l.flatMap tri)) (hn : l.length ≤ maxLen) : RA3 w (.slice A l.length c) l := by
  refine ⟨A, c, rfl, hn, fun j u hj => ?_⟩
  obtain ⟨hl, h⟩ := h
  rcases h with ⟨e, hn⟩ | ⟨g, cap, cur, e, hb, hg, h1, h2, h3, h4⟩
  · have : l = [] := List.eq_nil_of_length_eq_zero hn
    subst this
    simp at hj
  · cases e
    refine ⟨g, 0, rfl, ?_⟩
    rw [Nat.zero_add, cell_of_row w g j cur _ _ hg]
    have := (List.getElem?_eq_some_iff.1 hj).1
    rw [← h4, List.getElem?_take, if_pos (by omega)] at hj
    simpa using hj

set_option maxRecDepth 100000 in
set_option maxHeartbeats 4000000 in
theorem l10From_any (v : Value) (l : Sys) (p : Int) (w : World) (hs : SmallSys l) (hv : RSys w v l) :
    Calls Try.prog 49 #[v, .int .i64 p] w fun e w' => ∃ r, e = .returned r ∧ w'.ownsRow w.heap.size 69 3 r (fromL l.steps p).length ((fromL l.steps p).flatMap tri) ∧ Below w.heap.size w w' := by
  obtain ⟨i0, hi, hz0, hz1, hz2⟩ := info_parts info_fa
  obtain ⟨sv, tv, rfl, hsv, htv⟩ := hv
  have hn := hs.2
  obtain ⟨A, c, rfl, _⟩ := hsv.form
  have htv' := htv
  obtain ⟨B, d, rfl, _, _⟩ := htv
  have HV := Lib.hid (show ∀ W, Below w.heap.size w W → RA3 W (.slice B l.steps.length d) l.steps from fun W hb => htv'.below hb)
  clear htv' hsv hs
  have HIN := Lib.hid (owns_mono (World.ownsRow_made (w.alloc (.cells #[.slice A l.states.length c, .slice B l.steps.length d] 32)) (e := 69) (size := 3) #[] 0 (Nat.le_refl _) (Nat.zero_le _) rfl) (show w.heap.size + 1 ≤ _ by simp))
  have HINB := Lib.hid (show Below w.heap.size w ((w.alloc (.cells #[.slice A l.states.length c, .slice B l.steps.length d] 32)).alloc (.cells #[] 69)) from ((Below.refl _ _).alloc (Nat.le_refl _) _).alloc (by simp) _)
  have HBY0 := Lib.hid (show ((w.alloc (.cells #[.slice A l.states.length c, .slice B l.steps.length d] 32)).alloc (.cells #[] 69)).heap[w.heap.size]? = some (.cells #[.slice A l.states.length c, .slice B l.steps.length d] 32) from (heap_alloc_old _ _ (by simp)).trans (heap_alloc_new _ _))
  go_enter Try.func49, Try.ntmps49
  go_wp2_with fail
  go_loopw [5, 6] (fun u i wr => ∃ k : Nat, k ≤ l.steps.length ∧ i = .int .i64 k ∧ wr.ownsRow (w.heap.size + 1) 69 3 u (fromL (l.steps.take k) p).length ((fromL (l.steps.take k) p).flatMap tri) ∧ Below w.heap.size w wr ∧ wr.heap[w.heap.size]? = some (.cells #[.slice A l.states.length c, .slice B l.steps.length d] 32))
    (fun _ i _ => l.steps.length - (intOf i).toNat)
  case atStart => exact ⟨0, Nat.zero_le _, rfl, (by have h := HIN.out; rw [World.size_alloc] at h; exact h), HINB.out, HBY0.out⟩
  case round =>
    obtain ⟨k, hk, rfl, hown, hbel, hby⟩ := hrel
    obtain ⟨AO, cO, rfl, hown⟩ := owns_form hown
    have hsz := hbel.size
    have p1 := cell_of_row wr _ 1 _ _ _ hby
    by_cases hlt : k < l.steps.length
    · obtain ⟨b, o, c', e, h0, h1, h2⟩ := (HV.out wr hbel).at_ (List.getElem?_eq_getElem hlt)
      cases e
      have hnx := from_take p hlt
      have hln := from_len l.steps p k
      have HO := Lib.hid hown
      have HBE := Lib.hid hbel
      have HBY := Lib.hid hby
      generalize l.steps[k] = s at *
      generalize fromL (l.steps.take k) p = lk at *
      have b0 : (0 : Int) ≤ (k : Int) := by omega
      have b1 : (k : Int) < (l.steps.length : Int) := by omega
      clear hown hbel hby
      cases hp : (s.1 == p)
      · rw [hp, if_neg Bool.false_ne_true] at hnx
        have HN := Lib.hid hnx
        clear hnx
        go_wp2_with fail
        go_roundw
        case rel => exact ⟨k + 1, by omega, by go_num, by rw [HN.out]; exact HO.out, HBE.out, HBY.out⟩
        case measure => simp [intOf]; omega
      · rw [hp, if_pos rfl] at hnx
        have HN := Lib.hid hnx
        clear hnx
        go_wp2_with (at_builtin; refine wpList_append_own _ rfl _ _ 23 rfl (w.heap.size + 1) 69 i0 (.agg #[.int .i64 0, .int .i64 0, .int .i64 0]) 3 24 Try.underlying23 hi hz0 hz1 hz2 rfl (by decide) _ _ _ rfl (HO.out.alloc _) ⟨wr.heap.size, 0, none⟩ 1 1 (tri s) rfl rfl ?c1 ?c2 ?c3 ?c4 ?c5 ?_)
        case c1 => intro j u hj; match j, hj with | 0, hj | 1, hj | 2, hj => (simp [tri] at hj; subst hj; simp [Addr.add])
        case c2 => intro u hu; simp [tri] at hu; rcases hu with rfl | rfl | rfl <;> rfl
        case c3 => unfold maxLen; omega
        case c4 => omega
        case c5 => simp; have := (Array.getElem?_eq_some_iff.1 HBY.out).1; omega
        intro v2 w2 hown2 hgrow2 _
        have hints : lk.flatMap tri ++ tri s = (fromL (l.steps.take (k + 1)) p).flatMap tri := by rw [HN.out]; simp
        have hlen : lk.length + 1 = (fromL (l.steps.take (k + 1)) p).length := by rw [HN.out]; simp
        rw [hints, hlen] at hown2
        have hAl : Below w.heap.size w (wr.alloc (.cells #[.int .i64 s.1, .int .i64 s.2.1, .int .i64 s.2.2] 69)) := HBE.out.alloc hsz _
        have HO2 := Lib.hid hown2
        have HG2 := Lib.hid (hAl.grown hgrow2 (by simp; omega) (fun q hq => by have := (HO.out.lt q hq).1; omega))
        have hwz : w.heap.size < wr.heap.size := (Array.getElem?_eq_some_iff.1 HBY.out).1
        have HBY2 := Lib.hid ((hgrow2.block w.heap.size (by simp; omega) (fun e => by have := (HO.out.lt _ e.symm).1; omega)).trans ((heap_alloc_old _ _ hwz).trans HBY.out))
        clear hown2 hgrow2 hints hlen hAl
        go_wp2_with fail
        go_roundw
        case rel => exact ⟨k + 1, by omega, by go_num, HO2.out, HG2.out, HBY2.out⟩
        case measure => simp [intOf]; omega
    · obtain rfl : k = l.steps.length := by omega
      rw [List.take_length] at hown ⊢
      have HO := Lib.hid hown
      have HBE := Lib.hid hbel
      clear hown hbel hby
      go_wp2_with fail
      go_ret
      exact ⟨_, rfl, owns_mono HO.out (Nat.le_succ _), HBE.out⟩

end Go.Proofs.Ytlgdmafgbmnjdaa
