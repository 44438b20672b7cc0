/- The ends of a state's steps with an action: the reference walked. -/
import Derived.Test.YtojdobpmknadhaaDoorProg
import Derived.Test.YtojdobpmknadhaaDoorNextL
import Derived.Test.YtojdobpmknadhaaDoorTab
import Derived.Test.YtojdobpmknadhaaDoorKeptCell
set_option linter.unusedVariables false
namespace Go.Proofs.YtojdobpmknadhaaDoor
open Go.RowKit

set_option maxRecDepth 100000 in
set_option maxHeartbeats 4000000 in
theorem l11Next_any (v : Value) (l : Lab) (p q : Int) (w : World) (hs : SmallLab l) (hv : RLab w v l) :
    Calls Tryd.prog 49 #[v, .int .i64 p, .int .i64 q] w fun e w' => ∃ r, e = .returned r ∧ w'.ownsRow w.heap.size 3 1 r (nextA l.steps p q).length (ints (nextA l.steps p q)) ∧ Below w.heap.size w w' := by
  obtain ⟨i0, hi, hz0, hz1, hz2⟩ := info_parts info_ci
  obtain ⟨sv, tv, rfl, hsv, htv⟩ := hv
  have hn := hs.2.1
  obtain ⟨A, c, vs, rfl, _, _, _, _⟩ := hsv
  have htv' := htv
  obtain ⟨B, d, rfl, _, _⟩ := htv
  have HV := Lib.hid (show ∀ W, Below w.heap.size w W → RA3 W (.slice B l.steps.length d) l.steps from fun W hb => htv'.below hb)
  clear htv' hs
  have hb0 : Below w.heap.size w (w.alloc (.cells #[.slice A l.shows.length c, .slice B l.steps.length d] 30)) := (Below.refl _ _).alloc (Nat.le_refl _) _
  have hbx := (heap_alloc_old (w.alloc (.cells #[.slice A l.shows.length c, .slice B l.steps.length d] 30)) (.cells #[] 3) (by simp)).trans (heap_alloc_new w (.cells #[.slice A l.shows.length c, .slice B l.steps.length d] 30))
  have HBX := Lib.hid hbx
  have hown0 := World.ownsRow_made (e := 3) (size := 1) (w.alloc (.cells #[.slice A l.shows.length c, .slice B l.steps.length d] 30)) #[] 0 (Nat.le_refl _) (Nat.zero_le _) rfl
  rw [World.size_alloc] at hown0
  have HOWN := Lib.hid hown0
  have HB0 := Lib.hid (hb0.alloc hb0.size (.cells #[] 3))
  clear hbx hown0 hb0
  go_enter Tryd.func49, Tryd.ntmps49
  go_wp2_with fail
  go_loopw [7, 8] (fun u i wr => ∃ k : Nat, k ≤ l.steps.length ∧ i = .int .i64 k ∧ wr.ownsRow (w.heap.size + 1) 3 1 u (nextA (l.steps.take k) p q).length (ints (nextA (l.steps.take k) p q)) ∧ Below w.heap.size w wr ∧ wr.heap[w.heap.size]? = some (.cells #[.slice A l.shows.length c, .slice B l.steps.length d] 30))
    (fun _ i _ => l.steps.length - (intOf i).toNat)
  case atStart => exact ⟨0, Nat.zero_le _, rfl, HOWN.out, HB0.out, HBX.out⟩
  case round =>
    clear HOWN HB0 HBX
    obtain ⟨k, hk, rfl, hown, hbel, hbx⟩ := hrel
    obtain ⟨AO, cO, rfl, hown⟩ := owns_form hown
    have hsz := hbel.size
    have hlt0 := (Array.getElem?_eq_some_iff.1 hbx).1
    have x1 : wr.cell? ⟨w.heap.size, 1, none⟩ = some (.slice B l.steps.length d) := cell_of_row _ _ _ _ _ _ hbx
    by_cases hlt : k < l.steps.length
    · obtain ⟨b, o, c', e, h0, h1, h2⟩ := (HV.out wr hbel).at_ (List.getElem?_eq_getElem hlt)
      cases e
      have hnx := nextA_take p q hlt
      have hln := nextA_len l.steps p q k
      have HO := Lib.hid hown
      have HBE := Lib.hid hbel
      generalize l.steps[k] = s at *
      generalize nextA (l.steps.take k) p q = lk at *
      have b0 : (0 : Int) ≤ (k : Int) := by omega
      have b1 : (k : Int) < (l.steps.length : Int) := by omega
      have hA : Below wr.heap.size wr (wr.alloc (.cells #[.int .i64 s.1, .int .i64 s.2.1, .int .i64 s.2.2] 47)) := (Below.refl _ _).alloc (Nat.le_refl _) _
      have hbA := hbel.trans (hA.mono hbel.size)
      have HOA := Lib.hid (hown.alloc (.cells #[.int .i64 s.1, .int .i64 s.2.1, .int .i64 s.2.2] 47))
      have HBA := Lib.hid hbA
      have HBXA := Lib.hid ((heap_alloc_old wr (.cells #[.int .i64 s.1, .int .i64 s.2.1, .int .i64 s.2.2] 47) hlt0).trans hbx)
      have hszA := hbA.size
      clear hown hbel hA hbA hbx
      cases hp : ((s.1 == p) && (s.2.1 == q))
      · rw [hp, if_neg Bool.false_ne_true] at hnx
        have HN := Lib.hid hnx
        clear hnx
        cases hp1 : (s.1 == p)
        · go_wp2_with fail
          go_roundw
          case rel => exact ⟨k + 1, by omega, by go_num, by rw [HN.out]; exact HOA.out, HBA.out, HBXA.out⟩
          case measure => simp [intOf]; omega
        · rw [hp1, Bool.true_and] at hp
          go_wp2_with fail
          go_roundw
          case rel => exact ⟨k + 1, by omega, by go_num, by rw [HN.out]; exact HOA.out, HBA.out, HBXA.out⟩
          case measure => simp [intOf]; omega
      · rw [hp, if_pos rfl] at hnx
        have HN := Lib.hid hnx
        rw [Bool.and_eq_true] at hp
        obtain ⟨hp1, hp2⟩ := hp
        clear hnx
        go_wp2_with (at_builtin; refine wpList_append_own _ rfl _ _ 27 rfl (w.heap.size + 1) 3 i0 (.int .i64 0) 1 8 Tryd.underlying27 hi hz0 hz1 hz2 rfl (by decide) _ _ _ rfl (HOA.out.alloc _) ⟨wr.heap.size + 1, 0, none⟩ 1 1 [.int .i64 s.2.2] rfl rfl ?c1 ?c2 ?c3 ?c4 ?c5 ?_)
        case c1 => intro j u hj; match j, hj with | 0, hj => (simp at hj; subst hj; simp [Addr.add])
        case c2 => intro u hu; simp at hu; subst hu; rfl
        case c3 => unfold maxLen; omega
        case c4 => omega
        case c5 => simp; omega
        intro v2 w2 hown2 hgrow2 _
        have hints : ints lk ++ [.int .i64 s.2.2] = ints (nextA (l.steps.take (k + 1)) p q) := by rw [HN.out]; simp [ints]
        have hlen : lk.length + 1 = (nextA (l.steps.take (k + 1)) p q).length := by rw [HN.out]; simp
        rw [hints, hlen] at hown2
        have HO2 := Lib.hid hown2
        have HG2 := Lib.hid ((HBA.out.alloc hszA _).grown hgrow2 (by simp; omega) (fun q hq => by have := (HO.out.lt q hq).1; omega))
        have HBX2 := Lib.hid ((hgrow2.block w.heap.size (by simp; omega) (fun e => by have := (HO.out.lt _ e.symm).1; omega)).trans ((heap_alloc_old _ _ (by simp; omega)).trans HBXA.out))
        clear hown2 hgrow2 hints hlen
        go_wp2_with fail
        go_roundw
        case rel => exact ⟨k + 1, by omega, by go_num, HO2.out, HG2.out, HBX2.out⟩
        case measure => simp [intOf]; omega
    · obtain rfl : k = l.steps.length := by omega
      rw [List.take_length] at hown ⊢
      have HO := Lib.hid (owns_mono hown (Nat.le_succ w.heap.size))
      have HBE := Lib.hid hbel
      clear hown hbel hbx
      go_wp2_with fail
      go_ret
      exact ⟨_, rfl, HO.out, HBE.out⟩

end Go.Proofs.YtojdobpmknadhaaDoor
