/- Slices of strings read; the first that is equal; for each text the first that is equal to it: the program walked. -/
import Derived.Test.YtojdobpmknadhaaDoorProg
import Derived.Test.YtojdobpmknadhaaDoorClone
import Derived.Test.YtojdobpmknadhaaDoorIdx
import Derived.Test.YtojdobpmknadhaaDoorRndL
set_option linter.unusedVariables false
namespace Go.Proofs.YtojdobpmknadhaaDoor
open Go.RowKit

abbrev strs (ls : List ByteArray) : List Value := ls.map Value.string
theorem getElem?_strs (ls : List ByteArray) (j : Nat) (h : j < ls.length) : (strs ls)[j]? = some (.string (ls.getD j default)) := by
  simp [strs, List.getD, h]
theorem Cells.str {w : World} {A : Option Addr} {ls : List ByteArray} (h : Cells w A (strs ls)) {k : Nat} (hk : k < ls.length) :
    ∃ b o, A = some ⟨b, o, none⟩ ∧ ∀ j, j < ls.length → w.cell? ⟨b, o + j, none⟩ = some (.string (ls.getD j default)) := by
  obtain ⟨b, o, e, hc⟩ := h.at_ (k := k) (by simpa [strs] using hk)
  exact ⟨b, o, e, fun j hj => hc j _ (getElem?_strs ls j hj)⟩

set_option maxHeartbeats 1000000 in
theorem indexS_any (A : Option Addr) (c : Nat) (ls : List ByteArray) (x : ByteArray) (w : World) (hn : ls.length ≤ 16777216) (hA : Cells w A (strs ls)) :
    Calls Tryd.prog 52 #[.slice A ls.length c, .string x] w fun e w' => e = .returned (.int .i64 (idxR ls.length fun k => decide (ls.getD k default = x))) ∧ w = w' := by
  obtain ⟨p, hp⟩ : ∃ p : Nat → Bool, p = fun k => decide (ls.getD k default = x) := ⟨_, rfl⟩
  rw [← hp]
  have HP := Lib.hid (fun k => show p k = decide (ls.getD k default = x) from by rw [hp])
  clear hp
  go_enter Tryd.func52, Tryd.ntmps52
  go_wp2
  go_loop [8] (fun i => ∃ k : Nat, k ≤ ls.length ∧ i = .int .i64 k ∧ NoB p k) (fun i => ls.length - (intOf i).toNat)
  case atStart => exact ⟨0, Nat.zero_le _, rfl, fun j hj => by omega⟩
  case round =>
    obtain ⟨k, hk, rfl, hall⟩ := hrel
    have HALL := Lib.hid hall
    clear hall
    by_cases hlt : k < ls.length
    · obtain ⟨b, o, rfl, hc⟩ := hA.str hlt
      have c0 := hc k hlt
      by_cases he : ls.getD k default = x
      · have HY := Lib.hid (idxR_some hlt HALL.out (by rw [HP.out]; simpa using he))
        have hee := str_eq x
        rw [he] at c0
        clear hc hA he
        go_wp2_with fail
        go_ret
        exact ⟨by rw [HY.out]; rfl, rfl⟩
      · have HN := Lib.hid (show NoB p (k + 1) from none_next HALL.out (by rw [HP.out]; simpa using he))
        have hee := str_ne (fun h => he h.symm)
        clear hc hA he
        generalize ls.getD k default = y at *
        go_wp2_with fail
        go_round
        case rel => exact ⟨k + 1, by omega, by go_num, HN.out⟩
        case measure => simp [intOf]; omega
    · obtain rfl : k = ls.length := by omega
      have HF := Lib.hid (idxR_none HALL.out)
      go_wp2_with fail
      go_ret
      exact ⟨by rw [HF.out]; rfl, rfl⟩

set_option maxRecDepth 100000 in
set_option maxHeartbeats 4000000 in
theorem least_any (A : Option Addr) (c : Nat) (ls : List ByteArray) (w : World) (hn : ls.length ≤ 1000000) (hA : Cells w A (strs ls)) :
    Calls Tryd.prog 45 #[.slice A ls.length c] w fun e w' => ∃ r, e = .returned r ∧ w'.ownsRow w.heap.size 3 1 r (firstOf ls).length (ints (firstOf ls)) ∧ Below w.heap.size w w' := by
  obtain ⟨i0, hi, hz0, hz1, hz2⟩ := info_parts info_ci
  have HA := Lib.hid (show ∀ W, Below w.heap.size w W → Cells W A (strs ls) from fun W hb => hA.below hb)
  have hlen := first_len ls
  have HALL := Lib.hid (show (firstOf ls).take ls.length = firstOf ls from List.take_of_length_le (by omega))
  have HT := Lib.hid (fun k (h : k < ls.length) => first_take h)
  have hown0 := World.ownsRow_made (e := 3) (size := 1) w #[] 0 (Nat.le_refl _) (Nat.zero_le _) rfl
  have HOWN := Lib.hid hown0
  have HB0 := Lib.hid ((Below.refl w.heap.size w).alloc (Nat.le_refl _) (.cells #[] 3))
  have HLEN := Lib.hid hlen
  clear hA hown0 hlen
  go_enter Tryd.func45, Tryd.ntmps45
  go_wp2_with fail
  go_loopw [3, 9] (fun u i wr => ∃ k : Nat, k ≤ ls.length ∧ i = .int .i64 k ∧ wr.ownsRow w.heap.size 3 1 u k (ints ((firstOf ls).take k)) ∧ Below w.heap.size w wr)
    (fun _ i _ => ls.length - (intOf i).toNat)
  case atStart => exact ⟨0, Nat.zero_le _, rfl, HOWN.out, HB0.out⟩
  case round =>
    clear HOWN HB0
    obtain ⟨k, hk, rfl, hown, hbel⟩ := hrel
    obtain ⟨AO, cO, rfl, hown⟩ := owns_form hown
    have hsz := hbel.size
    by_cases hlt : k < ls.length
    · have hA := HA.out wr hbel
      have HX := Lib.hid (indexS_any A c ls (ls.getD k default) wr (by omega) hA)
      obtain ⟨b, o, rfl, hc⟩ := hA.str hlt
      have c0 := hc k hlt
      have HN := Lib.hid (HT.out k hlt)
      have HO := Lib.hid hown
      have HBE := Lib.hid hbel
      clear hc hA hown hbel
      generalize (idxR ls.length fun j => decide (ls.getD j default = ls.getD k default)) = y at *
      generalize ls.getD k default = s at *
      go_wp2_with fail
      refine HX.out.mono ?_
      rintro e w1 ⟨rfl, rfl⟩
      go_wp2_with (at_builtin; refine wpList_append_own _ rfl _ _ 27 rfl w.heap.size 3 i0 (.int .i64 0) 1 8 Tryd.underlying27 hi hz0 hz1 hz2 rfl (by decide) _ _ _ rfl (HO.out.alloc _) ⟨wr.heap.size, 0, none⟩ 1 1 [.int .i64 y] rfl rfl ?c1 ?c2 ?c3 ?c4 ?c5 ?_)
      case c1 => intro j u hj; match j, hj with | 0, hj => (simp at hj; subst hj; simp [Addr.add])
      case c2 => intro u hu; simp at hu; subst hu; rfl
      case c3 => unfold maxLen; omega
      case c4 => omega
      case c5 => simp; omega
      intro v2 w2 hown2 hgrow2 _
      have HO2 := Lib.hid (show w2.ownsRow w.heap.size 3 1 v2 (k + 1) (ints ((firstOf ls).take (k + 1))) from by
        have hints : ints ((firstOf ls).take (k + 1)) = ints ((firstOf ls).take k) ++ [.int .i64 y] := by rw [HN.out]; simp only [ints, List.map_append, List.map_cons, List.map_nil]
        rw [hints]
        simpa [ints] using hown2)
      have HG2 := Lib.hid ((HBE.out.alloc hsz _).grown hgrow2 (by simp; omega) (fun q hq => (HO.out.lt q hq).1))
      clear hown2 hgrow2
      go_wp2_with fail
      go_roundw
      case rel => exact ⟨k + 1, by omega, by go_num, HO2.out, HG2.out⟩
      case measure => simp [intOf]; omega
    · obtain rfl : k = ls.length := by omega
      rw [HALL.out] at hown
      have HO := Lib.hid hown
      have HBE := Lib.hid hbel
      clear hown hbel
      go_wp2_with fail
      go_ret
      exact ⟨_, rfl, by rw [HLEN.out]; exact HO.out, HBE.out⟩

end Go.Proofs.YtojdobpmknadhaaDoor
