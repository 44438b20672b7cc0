/- The two readers of formulas, walked: what they gather. -/
import Derived.Test.YtdgnhfhaaghoaaaGreatDoorProg
import Derived.Test.YtdgnhfhaaghoaaaGreatDoorJ46
import Derived.Test.YtdgnhfhaaghoaaaGreatDoorJ37
set_option linter.unusedSimpArgs false
set_option linter.unusedVariables false
namespace Go.Proofs.YtdgnhfhaaghoaaaGreatDoor
open Go.RowKit

def szOf : Value → Nat
  | .string s => s.size
  | _ => 0

theorem tok_two (l : List UInt8) : 1 ≤ (tok l).1.length ∧ (tok l).1.length ≤ 2 := by
  rcases l with _ | ⟨c, _ | ⟨d, _ | ⟨e, r⟩⟩⟩ <;> simp only [tok] <;> (repeat' split) <;> simp

theorem toks_stop (n : Nat) (l : List UInt8) (acc : List Int) (h : l = [] ∨ 200 < acc.length) : toks n l acc = acc := by
  cases n with
  | zero => rfl
  | succ n =>
    rw [toks, if_pos]
    rcases h with h | h
    · simp [h]
    · simp [h]

theorem toks_go (n : Nat) (l : List UInt8) (acc : List Int) (h1 : l ≠ []) (h2 : acc.length ≤ 200) : toks (n + 1) l acc = toks n (tok l).2 (acc ++ (tok l).1) := by
  have e1 : l.isEmpty = false := by simpa using h1
  have e2 : decide (200 < acc.length) = false := by simp; omega
  rw [toks, e1, e2]
  rfl

theorem list_size (s : ByteArray) : s.data.toList.length = s.size := by simp

set_option maxRecDepth 100000 in
set_option maxHeartbeats 2000000 in
theorem specParse_any (s : ByteArray) (w : World) (hs : s.size ≤ 1048576) :
    Calls Tryz.prog 32 #[.string s] w fun e w' => ∃ v, e = .returned (.tuple #[v, .bool (okP (gotT s) s)]) ∧ w'.ownsRow w.heap.size 3 1 v (pfT s).length (ints (pfT s)) ∧ Below w.heap.size w w' := by
  obtain ⟨i0, hi, hz0, hz1, hz2⟩ := info_parts info_i
  go_enter Tryz.func32, Tryz.ntmps32
  go_wp2
  go_loopw [4, 5] (fun v r wr => ∃ (rest : ByteArray) (acc : List Int) (n : Nat), r = .string rest ∧ rest.size ≤ 1048576 ∧ rest.size ≤ n ∧ gotT s = toks n rest.data.toList acc ∧ acc.length ≤ 202 ∧
      wr.ownsRow w.heap.size 3 1 v acc.length (ints acc) ∧ Below w.heap.size w wr)
    (fun _ r _ => szOf r)
  case atStart => exact ⟨s, [], s.size, rfl, hs, Nat.le_refl _, rfl, by simp, owns_new w [] _ 0 rfl (by decide), (Below.refl _ _).alloc (Nat.le_refl _) _⟩
  case round =>
    obtain ⟨rest, acc, n, rfl, hr, hrn, hE, hacc, hown, hbel⟩ := hrel
    obtain ⟨A, c, rfl, hown⟩ := owns_form hown
    by_cases hgo : 0 < rest.size ∧ acc.length ≤ 200
    · obtain ⟨h0, h200⟩ := hgo
      obtain ⟨n', rfl⟩ : ∃ n', n = n' + 1 := ⟨n - 1, by omega⟩
      have hne : rest.data.toList ≠ [] := fun e => by have := list_size rest; rw [e] at this; simp at this; omega
      rw [toks_go n' _ _ hne h200] at hE
      have hless : (tok rest.data.toList).2.length < rest.size := by
        have := tok_head rest h0
        have h2 := tok_less rest[0] (rest.data.toList.drop 1)
        rw [← this, List.length_drop, list_size] at h2
        omega
      have htwo := tok_two rest.data.toList
      have HT := Lib.hid (l11Token_any rest wr h0 hr)
      generalize tok rest.data.toList = tk at *
      have HE := Lib.hid hE
      have HB := Lib.hid hbel
      have HO := Lib.hid hown
      have hsz := hbel.size
      clear hE hbel hown hne
      go_wp2_with fail
      refine HT.out.mono ?_
      rintro e w1 ⟨v1, s1, rfl, hs1, hv1, hb1⟩
      obtain ⟨A1, c1, rfl, hv1⟩ := owns_form hv1
      obtain ⟨b1, o1, rfl, hc1⟩ := (Cells.of_owns hv1).at_ (k := 0) (by simp; omega)
      have hown1 := owns_below HO.out hb1 (Nat.le_refl _)
      have hsz1 := hb1.size
      have hsl := list_size s1
      rw [hs1] at hsl
      have HB1 := Lib.hid (HB.out.trans (hb1.mono HB.out.size))
      have HS1 := Lib.hid hs1
      clear hb1 hv1 hs1
      go_wp2_with (at_builtin; refine wpList_append_own _ rfl _ _ 30 rfl w.heap.size 3 i0 (.int .i64 0) 1 8 Tryz.underlying30 hi hz0 hz1 hz2 rfl (by decide) _ _ _ rfl hown1 ⟨b1, o1, none⟩ tk.1.length c1 (ints tk.1) rfl (by simp) (fun j u hj => by rw [Addr.add_lit]; exact hc1 j u hj) (ints_oneCell _ _) (by unfold maxLen; omega) (by omega) (by omega) ?_; intro v2 w2 hown2 hgrow2 _)
      have e1 : acc.length + tk.1.length = (acc ++ tk.1).length := by simp
      have e2 : ints acc ++ ints tk.1 = ints (acc ++ tk.1) := by simp
      rw [e1, e2] at hown2
      have HO2 := Lib.hid hown2
      have HG2 := Lib.hid (HB1.out.grown hgrow2 (by omega) (fun k hk => (hown1.lt k hk).1))
      clear hown2 hgrow2 hown1 e1 e2 hc1
      go_wp2
      go_roundw
      case rel => exact ⟨s1, acc ++ tk.1, n', rfl, by omega, by omega, by rw [HS1.out]; exact HE.out, by simp; omega, HO2.out, HG2.out⟩
      case measure => show s1.size < rest.size; omega
    · have hx : rest.size = 0 ∨ (0 < rest.size ∧ 200 < acc.length) := by omega
      have hst : gotT s = acc := by
        rw [hE]
        refine toks_stop _ _ _ ?_
        rcases hx with h | h
        · exact .inl (List.eq_nil_of_length_eq_zero (by rw [list_size]; exact h))
        · exact .inr h.2
      have hF := Lib.hid (specFormulaText_any A c acc)
      have hb0 := hbel.size
      clear hE
      by_cases hf : isF acc = true
      · by_cases ht : ((fT acc).toList == s.toList) = true
        · have e1 : okP (gotT s) s = true := by unfold okP; rw [hst, hf, ht]; rfl
          have e2 : pfT s = acc := by unfold pfT; rw [e1, hst]; rfl
          have E1 := Lib.hid e1
          have E2 := Lib.hid e2
          clear e1 e2 hst
          rcases hx with hx | ⟨hx1, hx2⟩
          all_goals
            go_wp2_with fail
            refine (hF.out wr (by omega) (.of_owns hown)).mono ?_
            rintro e w1 ⟨rfl, rfl⟩
            rw [hf]
            go_wp2_with fail
            go_ret2
            rw [E1.out, E2.out]
            exact ⟨_, rfl, hown, hbel⟩
        · have ht : ((fT acc).toList == s.toList) = false := by simpa using ht
          have e1 : okP (gotT s) s = false := by unfold okP; rw [hst, hf, ht]; rfl
          have e2 : pfT s = [] := by unfold pfT; rw [e1]; rfl
          have E1 := Lib.hid e1
          have E2 := Lib.hid e2
          clear e1 e2 hst
          rcases hx with hx | ⟨hx1, hx2⟩
          all_goals
            go_wp2_with fail
            refine (hF.out wr (by omega) (.of_owns hown)).mono ?_
            rintro e w1 ⟨rfl, rfl⟩
            rw [hf]
            go_wp2_with fail
            go_ret2
            rw [E1.out, E2.out]
            exact ⟨_, rfl, owns_mono (owns_new wr [] _ 0 rfl (by decide)) hb0, hbel.alloc hb0 _⟩
      · have hf : isF acc = false := by simpa using hf
        have e1 : okP (gotT s) s = false := by unfold okP; rw [hst, hf]; rfl
        have e2 : pfT s = [] := by unfold pfT; rw [e1]; rfl
        have E1 := Lib.hid e1
        have E2 := Lib.hid e2
        clear e1 e2 hst
        rcases hx with hx | ⟨hx1, hx2⟩
        all_goals
          go_wp2_with fail
          refine (hF.out wr (by omega) (.of_owns hown)).mono ?_
          rintro e w1 ⟨rfl, rfl⟩
          rw [hf]
          go_wp2_with fail
          go_ret2
          rw [E1.out, E2.out]
          exact ⟨_, rfl, owns_mono (owns_new wr [] _ 0 rfl (by decide)) hb0, hbel.alloc hb0 _⟩

abbrev digits : ByteArray := ⟨#[48, 49, 50, 51, 52, 53, 54, 55, 56, 57]⟩
theorem digits_nat : ∀ n : Fin 256, decide (0 ≤ Lib.indexByte digits.data.toList (UInt8.ofNat n.val)) = (decide (48 ≤ n.val) && decide (n.val ≤ 57)) := by decide +kernel
theorem digits_has (b : UInt8) : decide (0 ≤ Lib.indexByte digits.data.toList b) = (decide (48 ≤ b.toNat) && decide (b.toNat ≤ 57)) := by
  have := digits_nat ⟨b.toNat, b.toNat_lt⟩
  simpa using this

theorem indexB_any (b : UInt8) (w : World) :
    Calls Tryz.prog 77 #[.string digits, .int .u8 b.toNat] w fun e w' => e = .returned (.int .i64 (Lib.indexByte digits.data.toList b)) ∧ w = w' := by
  have := Any.strings_IndexByte Tryz.lays137 digits b.toNat w
  have e : ((b.toNat : Int)).toNat.toUInt8 = b := by simp
  rw [e] at this
  exact this.mono fun _ _ h => ⟨h.1, h.2.symm⟩

theorem read_next (s : ByteArray) (k : Nat) (h : k < s.size) : readI (s.data.toList.take (k + 1)) = readI (s.data.toList.take k) ++ (letter s[k]).toList := by
  have hl : k < s.data.toList.length := by simpa using h
  rw [List.take_succ_eq_append_getElem hl, readI_app]
  have e : readI [s[k]] = (letter s[k]).toList := by
    unfold readI
    cases hh : letter s[k] <;> simp [List.filterMap, hh]
  rw [← e]
  rfl

theorem read_len (s : ByteArray) (k : Nat) : (readI (s.data.toList.take k)).length ≤ k := by
  unfold readI
  have h1 := List.length_filterMap_le letter (s.data.toList.take k)
  have h2 : (s.data.toList.take k).length ≤ k := by rw [List.length_take]; omega
  omega

set_option maxRecDepth 100000 in
set_option maxHeartbeats 4000000 in
theorem implParse_any (s : ByteArray) (w : World) (hs : s.size ≤ 1048576) :
    Calls Tryz.prog 29 #[.string s] w fun e w' => ∃ v, e = .returned (.tuple #[v, .bool (okP (gotI s) s)]) ∧ w'.ownsRow w.heap.size 3 1 v (pfI s).length (ints (pfI s)) ∧ Below w.heap.size w w' := by
  obtain ⟨i0, hi, hz0, hz1, hz2⟩ := info_parts info_i
  by_cases hl : (600 : Int) < (s.size : Int)
  · have E1 := Lib.hid (show okP (gotI s) s = false from long_no (by omega))
    have E2 := Lib.hid (show pfI s = [] by unfold pfI; rw [E1.out]; rfl)
    go_enter Tryz.func29, Tryz.ntmps29
    go_wp2
    go_ret2
    rw [E1.out, E2.out]
    exact ⟨_, rfl, World.ownsRow_nil _ _ _ _, Below.refl _ _⟩
  · have hs6 : s.size ≤ 600 := by omega
    go_enter Tryz.func29, Tryz.ntmps29
    go_wp2
    go_loopw [4, 15] (fun v i wr => ∃ k : Nat, k ≤ s.size ∧ i = .int .i64 k ∧ wr.ownsRow w.heap.size 3 1 v (readI (s.data.toList.take k)).length (ints (readI (s.data.toList.take k))) ∧ Below w.heap.size w wr)
      (fun _ i _ => s.size - (intOf i).toNat)
    case atStart => exact ⟨0, Nat.zero_le _, rfl, owns_new w [] _ 0 rfl (by decide), (Below.refl _ _).alloc (Nat.le_refl _) _⟩
    case round =>
      obtain ⟨k, hk, rfl, hown, hbel⟩ := hrel
      obtain ⟨A, c, rfl, hown⟩ := owns_form hown
      have hlen := read_len s k
      by_cases hlt : k < s.size
      · have hnext := read_next s k hlt
        have HO := Lib.hid hown
        have HB := Lib.hid hbel
        have hsz := hbel.size
        clear hown hbel
        by_cases g116 : ((s[k].toNat : Int) == 116) = true
        · have c116 : (s[k] == 116) = true := beqU s[k] 116 (by decide) true g116
          have hlt2 : letter s[k] = some (0) := by unfold letter; simp only [c116, Bool.false_eq_true, if_true, if_false]
          rw [hlt2] at hnext
          have HN := Lib.hid hnext
          clear hnext hlt2
          go_wp2_with (at_builtin; refine wpList_append_own _ rfl _ _ 30 rfl w.heap.size 3 i0 (.int .i64 0) 1 8 Tryz.underlying30 hi hz0 hz1 hz2 rfl (by decide) _ _ _ rfl (HO.out.alloc _) ⟨wr.heap.size, 0, none⟩ 1 1 [.int .i64 0] rfl rfl ?c1 ?c2 ?c3 ?c4 ?c5 ?_)
          case c1 => intro j u hj; match j, hj with | 0, hj => (simp at hj; subst hj; simp [Addr.add])
          case c2 => intro u hu; simp at hu; subst hu; rfl
          case c3 => unfold maxLen; omega
          case c4 => omega
          case c5 => simp; omega
          intro v2 w2 hown2 hgrow2 _
          have e1 : (readI (s.data.toList.take k)).length + 1 = (readI (s.data.toList.take (k + 1))).length := by rw [HN.out]; simp
          have e2 : ints (readI (s.data.toList.take k)) ++ [.int .i64 (0)] = ints (readI (s.data.toList.take (k + 1))) := by rw [HN.out]; simp
          rw [e1, e2] at hown2
          have HO2 := Lib.hid hown2
          have HG2 := Lib.hid ((HB.out.alloc hsz _).grown hgrow2 (by simp; omega) (fun k hk => (HO.out.lt k hk).1))
          clear hown2 hgrow2 e1 e2
          go_wp2
          go_roundw
          case rel => exact ⟨k + 1, by omega, by go_num, HO2.out, HG2.out⟩
          case measure => simp [intOf]; omega
        · have g116 : ((s[k].toNat : Int) == 116) = false := by simpa using g116
          have c116 : (s[k] == 116) = false := beqU s[k] 116 (by decide) false g116
          by_cases g109 : ((s[k].toNat : Int) == 109) = true
          · have c109 : (s[k] == 109) = true := beqU s[k] 109 (by decide) true g109
            have hlt2 : letter s[k] = some (1) := by unfold letter; simp only [c116, c109, Bool.false_eq_true, if_true, if_false]
            rw [hlt2] at hnext
            have HN := Lib.hid hnext
            clear hnext hlt2
            go_wp2_with (at_builtin; refine wpList_append_own _ rfl _ _ 30 rfl w.heap.size 3 i0 (.int .i64 0) 1 8 Tryz.underlying30 hi hz0 hz1 hz2 rfl (by decide) _ _ _ rfl (HO.out.alloc _) ⟨wr.heap.size, 0, none⟩ 1 1 [.int .i64 1] rfl rfl ?c1 ?c2 ?c3 ?c4 ?c5 ?_)
            case c1 => intro j u hj; match j, hj with | 0, hj => (simp at hj; subst hj; simp [Addr.add])
            case c2 => intro u hu; simp at hu; subst hu; rfl
            case c3 => unfold maxLen; omega
            case c4 => omega
            case c5 => simp; omega
            intro v2 w2 hown2 hgrow2 _
            have e1 : (readI (s.data.toList.take k)).length + 1 = (readI (s.data.toList.take (k + 1))).length := by rw [HN.out]; simp
            have e2 : ints (readI (s.data.toList.take k)) ++ [.int .i64 (1)] = ints (readI (s.data.toList.take (k + 1))) := by rw [HN.out]; simp
            rw [e1, e2] at hown2
            have HO2 := Lib.hid hown2
            have HG2 := Lib.hid ((HB.out.alloc hsz _).grown hgrow2 (by simp; omega) (fun k hk => (HO.out.lt k hk).1))
            clear hown2 hgrow2 e1 e2
            go_wp2
            go_roundw
            case rel => exact ⟨k + 1, by omega, by go_num, HO2.out, HG2.out⟩
            case measure => simp [intOf]; omega
          · have g109 : ((s[k].toNat : Int) == 109) = false := by simpa using g109
            have c109 : (s[k] == 109) = false := beqU s[k] 109 (by decide) false g109
            by_cases g33 : ((s[k].toNat : Int) == 33) = true
            · have c33 : (s[k] == 33) = true := beqU s[k] 33 (by decide) true g33
              have hlt2 : letter s[k] = some (2) := by unfold letter; simp only [c116, c109, c33, Bool.false_eq_true, if_true, if_false]
              rw [hlt2] at hnext
              have HN := Lib.hid hnext
              clear hnext hlt2
              go_wp2_with (at_builtin; refine wpList_append_own _ rfl _ _ 30 rfl w.heap.size 3 i0 (.int .i64 0) 1 8 Tryz.underlying30 hi hz0 hz1 hz2 rfl (by decide) _ _ _ rfl (HO.out.alloc _) ⟨wr.heap.size, 0, none⟩ 1 1 [.int .i64 2] rfl rfl ?c1 ?c2 ?c3 ?c4 ?c5 ?_)
              case c1 => intro j u hj; match j, hj with | 0, hj => (simp at hj; subst hj; simp [Addr.add])
              case c2 => intro u hu; simp at hu; subst hu; rfl
              case c3 => unfold maxLen; omega
              case c4 => omega
              case c5 => simp; omega
              intro v2 w2 hown2 hgrow2 _
              have e1 : (readI (s.data.toList.take k)).length + 1 = (readI (s.data.toList.take (k + 1))).length := by rw [HN.out]; simp
              have e2 : ints (readI (s.data.toList.take k)) ++ [.int .i64 (2)] = ints (readI (s.data.toList.take (k + 1))) := by rw [HN.out]; simp
              rw [e1, e2] at hown2
              have HO2 := Lib.hid hown2
              have HG2 := Lib.hid ((HB.out.alloc hsz _).grown hgrow2 (by simp; omega) (fun k hk => (HO.out.lt k hk).1))
              clear hown2 hgrow2 e1 e2
              go_wp2
              go_roundw
              case rel => exact ⟨k + 1, by omega, by go_num, HO2.out, HG2.out⟩
              case measure => simp [intOf]; omega
            · have g33 : ((s[k].toNat : Int) == 33) = false := by simpa using g33
              have c33 : (s[k] == 33) = false := beqU s[k] 33 (by decide) false g33
              by_cases g38 : ((s[k].toNat : Int) == 38) = true
              · have c38 : (s[k] == 38) = true := beqU s[k] 38 (by decide) true g38
                have hlt2 : letter s[k] = some (3) := by unfold letter; simp only [c116, c109, c33, c38, Bool.false_eq_true, if_true, if_false]
                rw [hlt2] at hnext
                have HN := Lib.hid hnext
                clear hnext hlt2
                go_wp2_with (at_builtin; refine wpList_append_own _ rfl _ _ 30 rfl w.heap.size 3 i0 (.int .i64 0) 1 8 Tryz.underlying30 hi hz0 hz1 hz2 rfl (by decide) _ _ _ rfl (HO.out.alloc _) ⟨wr.heap.size, 0, none⟩ 1 1 [.int .i64 3] rfl rfl ?c1 ?c2 ?c3 ?c4 ?c5 ?_)
                case c1 => intro j u hj; match j, hj with | 0, hj => (simp at hj; subst hj; simp [Addr.add])
                case c2 => intro u hu; simp at hu; subst hu; rfl
                case c3 => unfold maxLen; omega
                case c4 => omega
                case c5 => simp; omega
                intro v2 w2 hown2 hgrow2 _
                have e1 : (readI (s.data.toList.take k)).length + 1 = (readI (s.data.toList.take (k + 1))).length := by rw [HN.out]; simp
                have e2 : ints (readI (s.data.toList.take k)) ++ [.int .i64 (3)] = ints (readI (s.data.toList.take (k + 1))) := by rw [HN.out]; simp
                rw [e1, e2] at hown2
                have HO2 := Lib.hid hown2
                have HG2 := Lib.hid ((HB.out.alloc hsz _).grown hgrow2 (by simp; omega) (fun k hk => (HO.out.lt k hk).1))
                clear hown2 hgrow2 e1 e2
                go_wp2
                go_roundw
                case rel => exact ⟨k + 1, by omega, by go_num, HO2.out, HG2.out⟩
                case measure => simp [intOf]; omega
              · have g38 : ((s[k].toNat : Int) == 38) = false := by simpa using g38
                have c38 : (s[k] == 38) = false := beqU s[k] 38 (by decide) false g38
                by_cases g60 : ((s[k].toNat : Int) == 60) = true
                · have c60 : (s[k] == 60) = true := beqU s[k] 60 (by decide) true g60
                  have hlt2 : letter s[k] = some (4) := by unfold letter; simp only [c116, c109, c33, c38, c60, Bool.false_eq_true, if_true, if_false]
                  rw [hlt2] at hnext
                  have HN := Lib.hid hnext
                  clear hnext hlt2
                  go_wp2_with (at_builtin; refine wpList_append_own _ rfl _ _ 30 rfl w.heap.size 3 i0 (.int .i64 0) 1 8 Tryz.underlying30 hi hz0 hz1 hz2 rfl (by decide) _ _ _ rfl (HO.out.alloc _) ⟨wr.heap.size, 0, none⟩ 1 1 [.int .i64 4] rfl rfl ?c1 ?c2 ?c3 ?c4 ?c5 ?_)
                  case c1 => intro j u hj; match j, hj with | 0, hj => (simp at hj; subst hj; simp [Addr.add])
                  case c2 => intro u hu; simp at hu; subst hu; rfl
                  case c3 => unfold maxLen; omega
                  case c4 => omega
                  case c5 => simp; omega
                  intro v2 w2 hown2 hgrow2 _
                  have e1 : (readI (s.data.toList.take k)).length + 1 = (readI (s.data.toList.take (k + 1))).length := by rw [HN.out]; simp
                  have e2 : ints (readI (s.data.toList.take k)) ++ [.int .i64 (4)] = ints (readI (s.data.toList.take (k + 1))) := by rw [HN.out]; simp
                  rw [e1, e2] at hown2
                  have HO2 := Lib.hid hown2
                  have HG2 := Lib.hid ((HB.out.alloc hsz _).grown hgrow2 (by simp; omega) (fun k hk => (HO.out.lt k hk).1))
                  clear hown2 hgrow2 e1 e2
                  go_wp2
                  go_roundw
                  case rel => exact ⟨k + 1, by omega, by go_num, HO2.out, HG2.out⟩
                  case measure => simp [intOf]; omega
                · have g60 : ((s[k].toNat : Int) == 60) = false := by simpa using g60
                  have c60 : (s[k] == 60) = false := beqU s[k] 60 (by decide) false g60
                  have hdg := digits_has s[k]
                  by_cases gd : (decide (48 ≤ s[k].toNat) && decide (s[k].toNat ≤ 57)) = true
                  · have hlt2 : letter s[k] = some ((s[k].toNat : Int) - 48) := by unfold letter; simp only [c116, c109, c33, c38, c60, gd, Bool.false_eq_true, if_true, if_false]
                    rw [hlt2] at hnext
                    have HN := Lib.hid hnext
                    clear hnext hlt2
                    rw [gd] at hdg
                    simp only [decide_eq_true_eq] at hdg
                    simp only [Bool.and_eq_true, decide_eq_true_eq] at gd
                    obtain ⟨gd1, gd2⟩ := gd
                    have HI := fun W => indexB_any s[k] W
                    generalize Lib.indexByte digits.data.toList s[k] = ib at *
                    have HI := Lib.hid HI
                    go_wp2_with (first | ((with_reducible refine (HI.out _).mono ?_); rintro e w' ⟨rfl, rfl⟩) | (at_builtin; refine wpList_append_own _ rfl _ _ 30 rfl w.heap.size 3 i0 (.int .i64 0) 1 8 Tryz.underlying30 hi hz0 hz1 hz2 rfl (by decide) _ _ _ rfl (HO.out.alloc _) ⟨wr.heap.size, 0, none⟩ 1 1 [.int .i64 ((s[k].toNat : Int) - 48)] rfl rfl ?c1 ?c2 ?c3 ?c4 ?c5 ?_))
                    case c1 => intro j u hj; match j, hj with | 0, hj => (simp at hj; subst hj; simp [Addr.add])
                    case c2 => intro u hu; simp at hu; subst hu; rfl
                    case c3 => unfold maxLen; omega
                    case c4 => omega
                    case c5 => simp; omega
                    intro v2 w2 hown2 hgrow2 _
                    have e1 : (readI (s.data.toList.take k)).length + 1 = (readI (s.data.toList.take (k + 1))).length := by rw [HN.out]; simp
                    have e2 : ints (readI (s.data.toList.take k)) ++ [.int .i64 ((s[k].toNat : Int) - 48)] = ints (readI (s.data.toList.take (k + 1))) := by rw [HN.out]; simp
                    rw [e1, e2] at hown2
                    have HO2 := Lib.hid hown2
                    have HG2 := Lib.hid ((HB.out.alloc hsz _).grown hgrow2 (by simp; omega) (fun k hk => (HO.out.lt k hk).1))
                    clear hown2 hgrow2 e1 e2
                    go_wp2
                    go_roundw
                    case rel => exact ⟨k + 1, by omega, by go_num, HO2.out, HG2.out⟩
                    case measure => simp [intOf]; omega
                  · have gd : (decide (48 ≤ s[k].toNat) && decide (s[k].toNat ≤ 57)) = false := by simpa using gd
                    have hlt2 : letter s[k] = none := by unfold letter; simp only [c116, c109, c33, c38, c60, gd, Bool.false_eq_true, if_false]
                    rw [hlt2, Option.toList_none, List.append_nil] at hnext
                    have HN := Lib.hid hnext
                    clear hnext hlt2
                    rw [gd] at hdg
                    simp only [decide_eq_false_iff_not] at hdg
                    go_wp2_with ((with_reducible refine (indexB_any s[k] _).mono ?_); rintro e w' ⟨rfl, rfl⟩)
                    go_roundw
                    case rel => exact ⟨k + 1, by omega, by go_num, by rw [HN.out]; exact HO.out, HB.out⟩
                    case measure => simp [intOf]; omega
      · obtain rfl : k = s.size := by omega
        have hall : readI (s.data.toList.take s.size) = gotI s := by unfold gotI; rw [List.take_of_length_le (by simp)]
        rw [hall] at hown hlen
        have hb0 := hbel.size
        have hF := Lib.hid (implIsFormula_any A c (gotI s))
        by_cases hf : isF (gotI s) = true
        · have h0 := isF_end hf
          have hT := Lib.hid (fun W hA => formulaText_any A c (gotI s) h0.2 W hA (gotI s).length 0 h0.1)
          have htx := fT_eq hf
          by_cases ht : ((fT (gotI s)).toList == s.toList) = true
          · have E1 := Lib.hid (show okP (gotI s) s = true by unfold okP; rw [hf, ht]; rfl)
            have E2 := Lib.hid (show pfI s = gotI s by unfold pfI; rw [E1.out]; rfl)
            rw [htx] at ht
            generalize fText (gotI s).length (gotI s) 0 = tx at *
            clear htx h0
            go_wp2_with fail
            refine (hF.out wr (by omega) (.of_owns hown)).mono ?_
            rintro e w1 ⟨rfl, rfl⟩
            rw [hf]
            go_wp2_with fail
            refine (hT.out wr (.of_owns hown)).mono ?_
            rintro e w1 ⟨rfl, rfl⟩
            go_wp2_with fail
            go_ret2
            rw [E1.out, E2.out]
            exact ⟨_, rfl, hown, hbel⟩
          · have ht : ((fT (gotI s)).toList == s.toList) = false := by simpa using ht
            have E1 := Lib.hid (show okP (gotI s) s = false by unfold okP; rw [hf, ht]; rfl)
            have E2 := Lib.hid (show pfI s = [] by unfold pfI; rw [E1.out]; rfl)
            rw [htx] at ht
            generalize fText (gotI s).length (gotI s) 0 = tx at *
            clear htx h0
            go_wp2_with fail
            refine (hF.out wr (by omega) (.of_owns hown)).mono ?_
            rintro e w1 ⟨rfl, rfl⟩
            rw [hf]
            go_wp2_with fail
            refine (hT.out wr (.of_owns hown)).mono ?_
            rintro e w1 ⟨rfl, rfl⟩
            go_wp2_with fail
            go_ret2
            rw [E1.out, E2.out]
            exact ⟨_, rfl, World.ownsRow_nil _ _ _ _, hbel⟩
        · have hf : isF (gotI s) = false := by simpa using hf
          have E1 := Lib.hid (show okP (gotI s) s = false by unfold okP; rw [hf]; rfl)
          have E2 := Lib.hid (show pfI s = [] by unfold pfI; rw [E1.out]; rfl)
          go_wp2_with fail
          refine (hF.out wr (by omega) (.of_owns hown)).mono ?_
          rintro e w1 ⟨rfl, rfl⟩
          rw [hf]
          go_wp2_with fail
          go_ret2
          rw [E1.out, E2.out]
          exact ⟨_, rfl, World.ownsRow_nil _ _ _ _, hbel⟩

end Go.Proofs.YtdgnhfhaaghoaaaGreatDoor
