/- Systems: the steps from a state, walked. -/
import Derived.Test.YtlgdmafgbmnjdaaProg
import Derived.Test.YtlgdmafgbmnjdaaSWord
import Derived.Lib.QuietBelow
set_option linter.unusedVariables false
namespace Go.Proofs.Ytlgdmafgbmnjdaa
open Go.RowKit
open Go.Sort (grow)

theorem info_ni : (Try.prog.info? 3).map (fun i => (i.zero, i.size, i.bytes)) = some (some (.int .i64 0), 1, 8) := by kernel_rfl

def nextL (l : List I3) (p : Int) : List Int := (l.filter (fun s => s.1 == p)).map (fun s => s.2.2)
theorem next_take {l : List I3} {k : Nat} (p : Int) (h : k < l.length) : nextL (l.take (k + 1)) p = if l[k].1 == p then nextL (l.take k) p ++ [l[k].2.2] else nextL (l.take k) p := by
  unfold nextL
  rw [List.take_succ_eq_append_getElem h, List.filter_append, List.map_append]
  by_cases e : l[k].1 == p <;> simp [e]
theorem next_len (l : List I3) (p : Int) (k : Nat) : (nextL (l.take k) p).length ≤ k := by
  unfold nextL
  rw [List.length_map]
  exact Nat.le_trans (List.length_filter_le _ _) (by rw [List.length_take]; omega)

set_option maxRecDepth 100000 in
set_option maxHeartbeats 4000000 in
theorem next_any (v : Value) (l : Sys) (p : Int) (w : World) (hs : SmallSys l) (hv : RSys w v l) :
    Calls Try.prog 42 #[v, .int .i64 p] w fun e w' => ∃ r, e = .returned r ∧ w'.ownsRow w.heap.size 3 1 r (nextL l.steps p).length (ints (nextL l.steps p)) ∧ Below w.heap.size w w' := by
  obtain ⟨i0, hi, hz0, hz1, hz2⟩ := info_parts info_ni
  obtain ⟨sv, tv, rfl, hsv, htv⟩ := hv
  have hn := hs.2
  obtain ⟨A, c, rfl, _⟩ := hsv.form
  have htv' := htv
  obtain ⟨B, d, rfl, _, _⟩ := htv
  have HV := Lib.hid (show ∀ W, Below w.heap.size w W → RA3 W (.slice B l.steps.length d) l.steps from fun W hb => htv'.below hb)
  clear htv' hsv hs
  have HIN := Lib.hid (owns_mono (owns_zero (w.alloc (.cells #[.slice A l.states.length c, .slice B l.steps.length d] 32)) 3) (show w.heap.size ≤ _ by simp))
  have HINB := Lib.hid (show Below w.heap.size w ((w.alloc (.cells #[.slice A l.states.length c, .slice B l.steps.length d] 32)).alloc (.cells #[] 3)) from ((Below.refl _ _).alloc (Nat.le_refl _) _).alloc (by simp) _)
  go_enter Try.func42, Try.ntmps42
  go_wp2_with fail
  go_loopw [5, 12] (fun u i wr => ∃ k : Nat, k ≤ l.steps.length ∧ i = .int .i64 k ∧ wr.ownsRow w.heap.size 3 1 u (nextL (l.steps.take k) p).length (ints (nextL (l.steps.take k) p)) ∧ Below w.heap.size w wr)
    (fun _ i _ => l.steps.length - (intOf i).toNat)
  case atStart => exact ⟨0, Nat.zero_le _, rfl, (by have h := HIN.out; rw [World.size_alloc] at h; exact h), HINB.out⟩
  case round =>
    obtain ⟨k, hk, rfl, hown, hbel⟩ := hrel
    obtain ⟨AO, cO, rfl, hown⟩ := owns_form hown
    have hsz := hbel.size
    by_cases hlt : k < l.steps.length
    · obtain ⟨b, o, c', e, h0, h1, h2⟩ := (HV.out wr hbel).at_ (List.getElem?_eq_getElem hlt)
      cases e
      have hnx := next_take p hlt
      have hln := next_len l.steps p k
      have HO := Lib.hid hown
      have HBE := Lib.hid hbel
      generalize l.steps[k] = s at *
      generalize nextL (l.steps.take k) p = lk at *
      have b0 : (0 : Int) ≤ (k : Int) := by omega
      have b1 : (k : Int) < (l.steps.length : Int) := by omega
      have hA : Below wr.heap.size wr (wr.alloc (.cells #[.int .i64 s.1, .int .i64 s.2.1, .int .i64 s.2.2] 69)) := (Below.refl _ _).alloc (Nat.le_refl _) _
      have hbA := hbel.trans (hA.mono hbel.size)
      have HOA := Lib.hid (hown.alloc (.cells #[.int .i64 s.1, .int .i64 s.2.1, .int .i64 s.2.2] 69))
      have HBA := Lib.hid hbA
      have hszA := hbA.size
      clear hown hbel hA hbA
      cases hp : (s.1 == p)
      · rw [hp, if_neg Bool.false_ne_true] at hnx
        have HN := Lib.hid hnx
        clear hnx
        go_wp2_with fail
        go_roundw
        case rel => exact ⟨k + 1, by omega, by go_num, by rw [HN.out]; exact HOA.out, HBA.out⟩
        case measure => simp [intOf]; omega
      · rw [hp, if_pos rfl] at hnx
        have HN := Lib.hid hnx
        clear hnx
        go_wp2_with (at_builtin; refine wpList_append_own _ rfl _ _ 26 rfl w.heap.size 3 i0 (.int .i64 0) 1 8 Try.underlying26 hi hz0 hz1 hz2 rfl (by decide) _ _ _ rfl (HOA.out.alloc _) ⟨wr.heap.size + 1, 0, none⟩ 1 1 [.int .i64 s.2.2] rfl rfl ?c1 ?c2 ?c3 ?c4 ?c5 ?_)
        case c1 => intro j u hj; match j, hj with | 0, hj => (simp at hj; subst hj; simp [Addr.add])
        case c2 => intro u hu; simp at hu; subst hu; rfl
        case c3 => unfold maxLen; omega
        case c4 => omega
        case c5 => simp; omega
        intro v2 w2 hown2 hgrow2 _
        have hints : ints lk ++ [.int .i64 s.2.2] = ints (nextL (l.steps.take (k + 1)) p) := by rw [HN.out]; simp [ints]
        have hlen : lk.length + 1 = (nextL (l.steps.take (k + 1)) p).length := by rw [HN.out]; simp
        rw [hints, hlen] at hown2
        have HO2 := Lib.hid hown2
        have HG2 := Lib.hid ((HBA.out.alloc hszA _).grown hgrow2 (by simp; omega) (fun q hq => (HO.out.lt q hq).1))
        clear hown2 hgrow2 hints hlen
        go_wp2
        go_roundw
        case rel => exact ⟨k + 1, by omega, by go_num, HO2.out, HG2.out⟩
        case measure => simp [intOf]; omega
    · obtain rfl : k = l.steps.length := by omega
      rw [List.take_length] at hown ⊢
      have HO := Lib.hid hown
      have HBE := Lib.hid hbel
      clear hown hbel
      go_wp2_with fail
      go_ret
      exact ⟨_, rfl, HO.out, HBE.out⟩

end Go.Proofs.Ytlgdmafgbmnjdaa
