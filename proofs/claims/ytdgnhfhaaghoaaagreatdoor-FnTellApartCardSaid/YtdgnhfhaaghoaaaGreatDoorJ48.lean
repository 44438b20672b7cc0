/- A drawn labelled system, as what reads it wants it. The laws' own helpers over lists of numbers: vInts, vHas, vBig. -/
import Derived.Test.YtdgnhfhaaghoaaaGreatDoorProg
import Derived.Test.YtdgnhfhaaghoaaaGreatDoorJ47
import Derived.Test.YtdgnhfhaaghoaaaGreatDoorJ6
import Derived.Test.YtdgnhfhaaghoaaaGreatDoorJ0
set_option linter.unusedSimpArgs false
set_option linter.unusedVariables false
namespace Go.Proofs.YtdgnhfhaaghoaaaGreatDoor
open Go.RowKit

theorem DSz.small {l : Lab} (h : DSz l) : SmallLab l := ⟨by have := h.a; omega, by have := h.c; omega, fun xs hx => by have := h.b xs hx; omega⟩
theorem LRows.rss {w : World} {B : Nat} {u : Value} {l : List (List Int)} (h : LRows w B u l) (hn : l.length ≤ 16777216) (hs : ∀ xs ∈ l, xs.length ≤ 16777216) : RSS w u l := by
  obtain ⟨vs, a, b⟩ := h
  obtain ⟨A, c, rfl, _⟩ := owns_form a
  refine ⟨A, c, vs, rfl, by unfold maxLen; omega, by have := a.1; omega, Cells.of_owns a, fun i v xs hv hx => ?_⟩
  have h1 := b i v xs hv hx
  obtain ⟨A', c', rfl, _⟩ := owns_form h1
  have := hs xs (List.mem_of_getElem? hx)
  exact ⟨A', c', rfl, by unfold maxLen; omega, Cells.of_owns h1⟩
/-- A drawn system is one that can be read, and is small. -/
theorem DLab.rlab {w w' : World} {u t : Value} (h : DLab w w' u t) : ∃ l : Lab, SmallLab l ∧ DSz l ∧ RLab w' (.agg #[u, t]) l := by
  obtain ⟨l, hz, hT, hS⟩ := h
  refine ⟨l, hz.small, hz, u, t, rfl, hT.rss (by have := hz.a; omega) (fun xs hx => by have := hz.b xs hx; omega), ?_⟩
  obtain ⟨A, c, rfl, _⟩ := owns_form hS
  exact ⟨A, c, rfl, by have := hz.c; unfold maxLen; omega, Cells.of_owns hS⟩
theorem DLab.low {w w0 w' : World} {u t : Value} (h : DLab w0 w' u t) (hs : w.heap.size ≤ w0.heap.size) : DLab w w' u t := by
  obtain ⟨l, hz, hT, hS⟩ := h
  exact ⟨l, hz, hT.low hs, owns_mono hS hs⟩
theorem DLab.kept {w w1 w2 : World} {u t : Value} {S : Nat → Prop} (h : DLab w w1 u t) (hk : Kept S w1 w2) (hS : ∀ q, S q → q < w.heap.size) : DLab w w2 u t := by
  obtain ⟨l, hz, hT, hO⟩ := h
  exact ⟨l, hz, hT.keptG hk hS, owns_keptG hO hk hS⟩
theorem DLab.form {w w1 : World} {u t : Value} (h : DLab w w1 u t) : ∃ A n c B m d, u = .slice A n c ∧ t = .slice B m d := by
  obtain ⟨l, hz, ⟨vs, a, _⟩, hO⟩ := h
  obtain ⟨A, c, rfl, _⟩ := owns_form a
  obtain ⟨B, d, rfl, _⟩ := owns_form hO
  exact ⟨A, _, c, B, _, d, rfl, rfl⟩
/-- A labelled system stored into a box. -/
theorem box_put {W : World} {P : Nat} {a b : Value} {ty : TypeId} (u t : Value) (h : W.heap[P]? = some (.cells #[a, b] ty)) :
    ((W.setCell ⟨P, 0, none⟩ u).setCell ⟨P, 1, none⟩ t).heap[P]? = some (.cells #[u, t] ty) ∧ Kept (fun q => q = P) W ((W.setCell ⟨P, 0, none⟩ u).setCell ⟨P, 1, none⟩ t) :=
  ⟨heap_setCell_same (W.setCell ⟨P, 0, none⟩ u) P 1 _ _ t (heap_setCell_same W P 0 _ _ u h), ((Kept.refl (fun q => q = P) W).setCell (S := fun q => q = P) (p := ⟨P, 0, none⟩) rfl u).setCell (S := fun q => q = P) (p := ⟨P, 1, none⟩) rfl t⟩

end Go.Proofs.YtdgnhfhaaghoaaaGreatDoor

set_option linter.unusedVariables false
namespace Go.Proofs.YtdgnhfhaaghoaaaGreatDoor
open Go.RowKit

set_option maxHeartbeats 1000000 in
theorem vInts_any (A B : Option Addr) (c d : Nat) (xs ys : List Int) (w : World) (hn : xs.length ≤ 16777216) (hm : ys.length ≤ 16777216) (hA : Cells w A (ints xs)) (hB : Cells w B (ints ys)) :
    Calls Tryz.prog 13 #[.slice A xs.length c, .slice B ys.length d] w fun e w' => e = .returned (.bool (sameI xs ys)) ∧ Below w.heap.size w w' := by
  by_cases hl : xs.length = ys.length
  · have hl' : ((xs.length : Int) == (ys.length : Int)) = true := by simp [hl]
    have hl'' : ((xs.length : Int) != (ys.length : Int)) = false := by simp [hl]
    have HL := Lib.hid hl
    clear hl
    go_enter Tryz.func13, Tryz.ntmps13
    go_wp2
    go_loopw [5] (fun i wr => ∃ k : Nat, k ≤ xs.length ∧ i = .int .i64 k ∧ (∀ j, j < k → xs.getD j 0 = ys.getD j 0) ∧ Below w.heap.size w wr)
      (fun i _ => xs.length - (intOf i).toNat)
    case atStart => exact ⟨0, Nat.zero_le _, rfl, fun j hj => by omega, Below.refl _ _⟩
    case round =>
      obtain ⟨k, hk, rfl, hsame, hbel⟩ := hrel
      have HS := Lib.hid hsame
      clear hsame
      by_cases hlt : k < xs.length
      · have hlt2 : k < ys.length := by have := HL.out; omega
        obtain ⟨b, o, rfl, hc⟩ := (hA.below hbel).int hlt
        have hck := hc k hlt
        obtain ⟨b', o', rfl, hc'⟩ := (hB.below hbel).int hlt2
        have hck' := hc' k hlt2
        clear hc hc' hA hB
        by_cases hx : xs.getD k 0 = ys.getD k 0
        · have HX := Lib.hid hx
          have hb0 : (xs.getD k 0 != ys.getD k 0) = false := by rw [hx, bne_self_eq_false]
          clear hx
          obtain ⟨x, ex⟩ : ∃ x, x = xs.getD k 0 := ⟨_, rfl⟩
          obtain ⟨y, ey⟩ : ∃ y, y = ys.getD k 0 := ⟨_, rfl⟩
          rw [← ex] at hck hb0
          rw [← ey] at hck' hb0
          clear ex ey
          go_wp2
          go_quiet (fail)
          go_wp2
          go_roundw
          case rel =>
            refine ⟨k + 1, by omega, by go_num, fun j hj => ?_, below_drewN' hbel _⟩
            rcases Nat.lt_succ_iff_lt_or_eq.1 hj with h | h
            · exact HS.out j h
            · rw [h]; exact HX.out
          case measure => simp [intOf]; omega
        · have E := sameI_at hx
          have HE := Lib.hid E
          have hb0 : (xs.getD k 0 != ys.getD k 0) = true := by rw [bne_iff_ne]; exact hx
          clear hx E
          obtain ⟨x, ex⟩ : ∃ x, x = xs.getD k 0 := ⟨_, rfl⟩
          obtain ⟨y, ey⟩ : ∃ y, y = ys.getD k 0 := ⟨_, rfl⟩
          rw [← ex] at hck hb0
          rw [← ey] at hck' hb0
          clear ex ey
          go_wp2
          go_quiet (fail)
          go_wp2
          go_ret
          exact ⟨by rw [HE.out]; rfl, below_drewN' hbel _⟩
      · obtain rfl : k = xs.length := by omega
        have E := sameI_all HL.out HS.out
        have HE := Lib.hid E
        clear E
        go_wp2
        go_ret
        exact ⟨by rw [HE.out]; rfl, hbel⟩
  · have hl' : ((xs.length : Int) == (ys.length : Int)) = false := by rw [beq_eq_false_iff_ne]; omega
    have hl'' : ((xs.length : Int) != (ys.length : Int)) = true := by rw [bne_iff_ne]; omega
    have HE := Lib.hid (sameI_len hl)
    clear hl
    go_enter Tryz.func13, Tryz.ntmps13
    go_wp2
    go_ret
    exact ⟨by rw [HE.out]; rfl, Below.refl _ _⟩

theorem vHas_any (A : Option Addr) (c : Nat) (xs : List Int) (x : Int) (w : World) (hn : xs.length ≤ 16777216) (hA : Cells w A (ints xs)) :
    Calls Tryz.prog 16 #[.slice A xs.length c, .int .i64 x] w fun e w' => e = .returned (.bool (xs.contains x)) ∧ w = w' := by
  have HA := Lib.hid hA
  clear hA
  go_enter Tryz.func16, Tryz.ntmps16
  go_wp2
  go_loopw [5] (fun i wr => ∃ k : Nat, k ≤ xs.length ∧ i = .int .i64 k ∧ (∀ j, j < k → xs.getD j 0 ≠ x) ∧ w = wr)
    (fun i _ => xs.length - (intOf i).toNat)
  case atStart => exact ⟨0, Nat.zero_le _, rfl, fun j hj => by omega, rfl⟩
  case round =>
    obtain ⟨k, hk, rfl, hno, rfl⟩ := hrel
    have HNO := Lib.hid hno
    clear hno
    by_cases hlt : k < xs.length
    · obtain ⟨b, o, rfl, hc⟩ := HA.out.int hlt
      have hck := hc k hlt
      clear hc
      have hxk : xs.getD k 0 = xs[k] := by simp [List.getD, hlt]
      have HXK := Lib.hid hxk
      obtain ⟨y, ey⟩ : ∃ y, y = xs.getD k 0 := ⟨_, rfl⟩
      rw [← ey] at hck
      have HY := Lib.hid ey
      clear ey hxk
      cases hb : (y == x)
      · have hne : y ≠ x := by simpa using hb
        have HNE := Lib.hid hne
        clear hne
        go_wp2
        go_roundw
        case rel =>
          refine ⟨k + 1, by omega, by go_num, fun j hj => ?_, by first | rfl | trivial⟩
          rcases Nat.lt_succ_iff_lt_or_eq.1 hj with h | h
          · exact HNO.out j h
          · rw [h, ← HY.out]; exact HNE.out
        case measure => simp [intOf]; omega
      · have he : y = x := by simpa using hb
        have HE := Lib.hid (show xs.contains x = true from by
          rw [List.contains_iff_mem, ← he, HY.out, HXK.out]
          exact List.getElem_mem hlt)
        clear he
        go_wp2
        go_ret
        exact ⟨by rw [HE.out]; rfl, rfl⟩
    · obtain rfl : k = xs.length := by omega
      have HE := Lib.hid (show xs.contains x = false from by
        rw [Bool.eq_false_iff]
        intro h
        rw [List.contains_iff_mem] at h
        obtain ⟨i, hi, e⟩ := List.getElem_of_mem h
        exact HNO.out i hi (by simp [List.getD, hi, e]))
      go_wp2
      go_ret
      exact ⟨by rw [HE.out]; rfl, rfl⟩

theorem vBig_any (A : Option Addr) (n c : Nat) (w : World) (hn : n ≤ maxLen) :
    Calls Tryz.prog 9 #[.slice A n c] w fun e w' => e = .returned (.bool (decide (65536 < n))) ∧ w = w' := by
  by_cases h : 65536 < n
  · have h' : (65536 : Int) < (n : Int) := by omega
    go_enter Tryz.func9, Tryz.ntmps9
    go_wp2
    go_ret
    exact ⟨by simp [h], rfl⟩
  · have h' : ¬ (65536 : Int) < (n : Int) := by omega
    go_enter Tryz.func9, Tryz.ntmps9
    go_wp2
    go_ret
    exact ⟨by simp [h], rfl⟩

/-- Results: a struct in a cell, and two slots. -/
theorem results_cell_row3 {P : Program} {fn : Func} {p q r : Tmp} {ty : TypeId} (h : fn.results = #[.cell p ty, .tmp q, .tmp r]) (tmps : Array Value) (w : World) (g : Nat) (t : TypeId) (cs : Array Value) (fr : Nat × Nat) (d : TypeDesc)
    (hp : tmps.getD p undef = .pointer (some ⟨g, 0, none⟩)) (hg : w.heap[g]? = some (.cells cs t fr))
    (hu : P.underlying ty = some d) (hd : (match d with | .struct _ | .array _ _ => true | _ => false) = true) (hi : (P.info? ty).map (·.size) = some cs.size) :
    (results fn tmps).run P w = .ok (.tuple #[.agg cs, tmps.getD q undef, tmps.getD r undef]) w := by
  have hp' : tmps[p]?.getD undef = .pointer (some ⟨g, 0, none⟩) := by simpa using hp
  simp [results, h, hp', asAddr, run_loadVar_row w g t ty cs fr d hg hu hd hi]

end Go.Proofs.YtdgnhfhaaghoaaaGreatDoor
