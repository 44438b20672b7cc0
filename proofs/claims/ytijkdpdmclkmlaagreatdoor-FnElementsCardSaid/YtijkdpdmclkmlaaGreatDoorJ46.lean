/- The law of inverses: plain. The laws of elements and of ions: plain. The laws' own helpers over lists of numbers: vInts, vHas, vBig. -/
import Derived.Test.YtijkdpdmclkmlaaGreatDoorJ45
import Derived.Test.YtijkdpdmclkmlaaGreatDoorJ35
import Derived.Test.YtijkdpdmclkmlaaGreatDoorProg
import Derived.Test.YtijkdpdmclkmlaaGreatDoorJ5
set_option linter.unusedSimpArgs false
set_option linter.unusedVariables false
set_option maxRecDepth 100000
set_option maxHeartbeats 16000000
namespace Go.Proofs.YtijkdpdmclkmlaaGreatDoor
open Go.RowKit
theorem comp_ok {sig : List Ct} {a b : Gr} (ha : GoodP sig a) (hb : GoodP sig b) (hf : FitsP a b) (hc : GoodP sig (compG a b)) : compR sig a b = true := by
  unfold compR
  rw [(good_iff sig a).2 ha, (good_iff sig b).2 hb, (fits_iff a b).2 hf, (good_iff sig _).2 hc]
  rfl
theorem ident_ok {sig : List Ct} {n : Nat} {names : List ByteArray} (h : GoodP sig (idG n names)) : identR sig (idG n names) = true := by
  rw [identR_eq, (good_iff sig _).2 h, Bool.true_and]
  have e : idN (idG n names) = idG n names := by unfold idN; show idG (n : Int).toNat names = _; rw [Int.toNat_natCast]
  rw [e]
  exact (eqI_iff rfl).2 rfl
theorem und_perm (u : List Int) : undG (permG u) = u := by
  unfold undG permG
  simp only [List.map_map]
  have : ((fun p : Int => -1 - p) ∘ fun r : Int => -1 - r) = id := by funext p; simp only [Function.comp, id]; omega
  rw [this, List.map_id]
theorem permB_perm {u : List Int} (hu : OrdP u.length u) : permB (permG u) = true := by
  rw [permB_eq, und_perm]
  have h1 : placB (permG u) = true := by unfold placB permG; simp
  rw [h1, Bool.true_and]
  exact (order_iff _ _).2 hu

/-- The signature with the one control 'k'. -/
def sigK : List Ct := [(⟨#[107]⟩, 0, 0)]
theorem sigK_ok : sigB sigK = true := by decide

section
variable {n m k : Nat} {names : List ByteArray} {t : List Int}
theorem el_id (hn : n ≤ 4) (h : namesB names = true) : identR sigK (idG n names) = true := ident_ok (id_good sigK_ok h hn)
theorem el_perm (h4 : t.length ≤ 4) (ho : orderB t.length t = true) : permR sigK (permG t) = true := by
  have h := (order_iff _ _).1 ho
  rw [permR_eq, (good_iff sigK _).2 (perm_good sigK_ok names_none h h4), permB_perm h]
  rfl
theorem el_merge (h4 : n ≤ 4) : placR sigK (mergeG n) = true ∧ primR sigK (mergeG n) = true := by
  have hg := (good_iff sigK _).2 (merge_good (n := n) sigK_ok names_none h4)
  rw [placR_eq, primR_eq, hg]
  exact ⟨rfl, rfl⟩
theorem el_bar {n : Int} (h0 : 0 ≤ n) (h4 : n ≤ 4) : placR sigK (barG n) = true := by
  rw [placR_eq, (good_iff sigK _).2 (bar_good sigK_ok names_none h0 h4)]
  rfl
theorem el_swap_ord (m k : Nat) : OrdP ((swapL m k).length : Int) (swapL m k) := by rw [swapL_len]; exact swap_ord m k
theorem el_swap_good (h : m + k ≤ 4) : GoodP sigK (permG (swapL m k)) := perm_good sigK_ok names_none (el_swap_ord m k) (by rw [swapL_len]; exact h)
theorem el_swap_perm (h : m + k ≤ 4) : permR sigK (permG (swapL m k)) = true := el_perm (by rw [swapL_len]; exact h) ((order_iff _ _).2 (el_swap_ord m k))
theorem el_swap_comp (h : m + k ≤ 4) : compR sigK (permG (swapL k m)) (permG (swapL m k)) = true :=
  comp_ok (el_swap_good (by omega)) (el_swap_good h) (perm_fits (by rw [swapL_len, swapL_len]; omega)) (by rw [swap_back]; exact id_good sigK_ok names_none h)
theorem el_swap_id (h : m + k ≤ 4) : identR sigK (compG (permG (swapL k m)) (permG (swapL m k))) = true := by rw [swap_back]; exact el_id h names_none
end

set_option maxHeartbeats 1000000 in
theorem vInts_any (A B : Option Addr) (c d : Nat) (xs ys : List Int) (w : World) (hn : xs.length ≤ 16777216) (hm : ys.length ≤ 16777216) (hA : Cells w A (ints xs)) (hB : Cells w B (ints ys)) :
    Calls Tryz.prog 104 #[.slice A xs.length c, .slice B ys.length d] w fun e w' => e = .returned (.bool (sameI xs ys)) ∧ Below w.heap.size w w' := by
  by_cases hl : xs.length = ys.length
  · have hl' : ((xs.length : Int) == (ys.length : Int)) = true := by simp [hl]
    have hl'' : ((xs.length : Int) != (ys.length : Int)) = false := by simp [hl]
    have HL := Lib.hid hl
    clear hl
    go_enter Tryz.func104, Tryz.ntmps104
    go_wp2
    go_loopw [5] (fun i wr => ∃ k : Nat, k ≤ xs.length ∧ i = .int .i64 k ∧ (∀ j, j < k → xs.getD j 0 = ys.getD j 0) ∧ Below w.heap.size w wr)
      (fun i _ => xs.length - (intOf i).toNat)
    case atStart => exact ⟨0, Nat.zero_le _, rfl, fun j hj => by omega, Below.refl _ _⟩
    obtain ⟨k, hk, rfl, hsame, hbel⟩ := hrel
    have HS := Lib.hid hsame
    clear hsame
    by_cases hlt : k < xs.length
    · have hlt2 : k < ys.length := by have := HL.out; omega
      obtain ⟨b, o, rfl, hc⟩ := (hA.below hbel).int hlt
      have hck := hc k hlt
      obtain ⟨b', o', rfl, hc'⟩ := (hB.below hbel).int hlt2
      have hck' := hc' k hlt2
      clear hc hc' hA hB
      by_cases hx : xs.getD k 0 = ys.getD k 0
      · have HX := Lib.hid hx
        have hb0 : (xs.getD k 0 != ys.getD k 0) = false := by rw [hx, bne_self_eq_false]
        clear hx
        obtain ⟨x, ex⟩ : ∃ x, x = xs.getD k 0 := ⟨_, rfl⟩
        obtain ⟨y, ey⟩ : ∃ y, y = ys.getD k 0 := ⟨_, rfl⟩
        rw [← ex] at hck hb0
        rw [← ey] at hck' hb0
        clear ex ey
        go_wp2
        go_quiet (fail)
        go_wp2
        go_roundw
        case rel =>
          refine ⟨k + 1, by omega, by go_num, fun j hj => ?_, below_drewN' hbel _⟩
          rcases Nat.lt_succ_iff_lt_or_eq.1 hj with h | h
          · exact HS.out j h
          rw [h]; exact HX.out
        case measure => simp [intOf]; omega
      have E := sameI_at hx
      have HE := Lib.hid E
      have hb0 : (xs.getD k 0 != ys.getD k 0) = true := by rw [bne_iff_ne]; exact hx
      clear hx E
      obtain ⟨x, ex⟩ : ∃ x, x = xs.getD k 0 := ⟨_, rfl⟩
      obtain ⟨y, ey⟩ : ∃ y, y = ys.getD k 0 := ⟨_, rfl⟩
      rw [← ex] at hck hb0
      rw [← ey] at hck' hb0
      clear ex ey
      go_wp2
      go_quiet (fail)
      go_wp2
      go_ret
      exact ⟨by rw [HE.out]; rfl, below_drewN' hbel _⟩
    obtain rfl : k = xs.length := by omega
    have E := sameI_all HL.out HS.out
    have HE := Lib.hid E
    clear E
    go_wp2
    go_ret
    exact ⟨by rw [HE.out]; rfl, hbel⟩
  have hl' : ((xs.length : Int) == (ys.length : Int)) = false := by rw [beq_eq_false_iff_ne]; omega
  have hl'' : ((xs.length : Int) != (ys.length : Int)) = true := by rw [bne_iff_ne]; omega
  have HE := Lib.hid (sameI_len hl)
  clear hl
  go_enter Tryz.func104, Tryz.ntmps104
  go_wp2
  go_ret
  exact ⟨by rw [HE.out]; rfl, Below.refl _ _⟩

theorem vBig_any (A : Option Addr) (n c : Nat) (w : World) (hn : n ≤ maxLen) :
    Calls Tryz.prog 10 #[.slice A n c] w fun e w' => e = .returned (.bool (decide (65536 < n))) ∧ w = w' := by
  by_cases h : 65536 < n
  · have h' : (65536 : Int) < (n : Int) := by omega
    go_enter Tryz.func10, Tryz.ntmps10
    go_wp2
    go_ret
    exact ⟨by simp [h], rfl⟩
  have h' : ¬ (65536 : Int) < (n : Int) := by omega
  go_enter Tryz.func10, Tryz.ntmps10
  go_wp2
  go_ret
  exact ⟨by simp [h], rfl⟩

end Go.Proofs.YtijkdpdmclkmlaaGreatDoor
