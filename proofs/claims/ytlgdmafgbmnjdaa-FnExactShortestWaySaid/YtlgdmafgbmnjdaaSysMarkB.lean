/- Nodes, bigraphs and systems marked: the number that is handed on, and what stays. -/
import Derived.Test.YtlgdmafgbmnjdaaProg
import Derived.Test.YtlgdmafgbmnjdaaSysMark
set_option linter.unusedVariables false
namespace Go.Proofs.Ytlgdmafgbmnjdaa
open Go.RowKit

/-- How far the numbers run. -/
def runBN (x : BN) : Nat := 2 + x.2.2.length

theorem run_le {l : List BN} (h : costL costBN l ≤ 16777216) (j : Nat) : ((l.take j).map runBN).sum ≤ 100000000 := by
  have h1 : ∀ l : List BN, (l.map runBN).sum = 2 * l.length + (l.map costBN).sum := by
    intro l
    induction l with
    | nil => rfl
    | cons a r ih => simp only [List.map_cons, List.sum_cons, List.length_cons, ih, runBN, costBN]; omega
  have h2 : ((l.take j).map runBN).sum ≤ (l.map runBN).sum := by
    conv => rhs; rw [← List.take_append_drop j l]
    rw [List.map_append, List.sum_append]
    omega
  have h3 := h1 l
  unfold costL at h
  omega

set_option maxRecDepth 100000 in
set_option maxHeartbeats 4000000 in
theorem markNodeS_any (S : Nat → Prop) (v : Value) (l : List BN) (k : Int) (w : World) (hn : costL costBN l ≤ 16777216) (hk0 : 0 < k) (hk1 : k ≤ 500000000) (hv : OSl OBN 3 w S v l) :
    Calls Try.prog 76 #[v, .int .i64 k] w fun e w' => e = .returned (.int .i64 (k + ((l.map runBN).sum : Nat))) ∧ Kept S w w' := by
  obtain ⟨css, S0, T, h0, hl, hsz, hrows, a1, a2, a3⟩ := hv
  obtain ⟨A, c, e, _⟩ := id h0
  subst e
  have hln : l.length ≤ 16777216 := cost_len hn
  have HC := Lib.hid (fun x (hx : x ∈ l) => cost_at hn hx)
  have HN := Lib.hid hn
  have H0 := Lib.hid h0
  have HR := Lib.hid hrows
  have HSZ := Lib.hid hsz
  clear h0 hrows hn hsz
  go_enter Try.func76, Try.ntmps76
  go_wp2_with fail
  go_loopw [1, 5] (fun kk i wr => ∃ (j : Nat) (ds : List Value), j ≤ l.length ∧ i = .int .i64 j ∧ kk = .int .i64 (k + (((l.take j).map runBN).sum : Nat)) ∧ ds.length = l.length * 3 ∧ Own wr S0 (.slice A l.length c) l.length ds ∧
      (∀ i, j ≤ i → ∀ r, r < 3 → ds[i * 3 + r]? = css.flatten[i * 3 + r]?) ∧ (∀ (i : Nat) cs x, j ≤ i → css[i]? = some cs → l[i]? = some x → OBN wr (T i) cs x) ∧ Kept S w wr)
    (fun _ i _ => l.length - (intOf i).toNat)
  case atStart => exact ⟨0, css.flatten, Nat.zero_le _, rfl, by simp, by rw [flat_length HSZ.out, hl], H0.out, fun _ _ _ _ => rfl, fun i cs x _ h1 h2 => HR.out i cs x h1 h2, Kept.refl _ _⟩
  case round =>
    obtain ⟨j, ds, hj, rfl, rfl, hdl, hown, hsame, hrow, hkept⟩ := hrel
    by_cases hlt : j < l.length
    · have hcj : css[j]? = some (css[j]'(by omega)) := List.getElem?_eq_getElem (by omega)
      obtain ⟨lv, hcs, hlv⟩ := hrow j _ _ (Nat.le_refl _) hcj (List.getElem?_eq_getElem hlt)
      have hnx := sum_next runBN l j _ (List.getElem?_eq_getElem hlt)
      have hcx := HC.out _ (List.getElem_mem hlt)
      have hle : ((l.take j).map runBN).sum ≤ 100000000 := run_le HN.out j
      obtain ⟨g, o, c', e, hg, hc⟩ := hown.at_ (k := j * 3) (by omega)
      cases e
      obtain ⟨h1, f1⟩ := hc (j * 3) _ (List.getElem?_eq_getElem (by omega))
      obtain ⟨h2, f2⟩ := hc (j * 3 + 1) _ (List.getElem?_eq_getElem (by omega))
      have h3v : ds[j * 3 + 2]? = some lv := by
        rw [hsame j (Nat.le_refl _) 2 (by omega)]
        exact flat_at HSZ.out hcj (by rw [hcs]; rfl)
      obtain ⟨h3, f3⟩ := hc (j * 3 + 2) _ h3v
      obtain ⟨AL, cL, rfl, _⟩ := id hlv
      obtain ⟨kk, hkk⟩ : ∃ kk, kk = k + (((l.take j).map runBN).sum : Nat) := ⟨_, rfl⟩
      have hkk0 : 0 < kk := by omega
      have hkk1 : kk ≤ 700000000 := by omega
      have K1 : Kept (fun b => b = g) wr ((wr.setCell ⟨g, o + j * 3, none⟩ (.int .i64 kk)).setCell ⟨g, o + j * 3 + 1, none⟩ (.int .i64 (kk + 1))) := ((Kept.refl (fun b => b = g) wr).setCell (p := ⟨g, o + j * 3, none⟩) rfl _).setCell (p := ⟨g, o + j * 3 + 1, none⟩) rfl _
      have hO1 := (hown.set (j * 3) (.int .i64 kk) rfl (by omega)).set (j * 3 + 1) (.int .i64 (kk + 1)) rfl (by simp; omega)
      rw [← Nat.add_assoc] at hO1 h2 h3 f2 f3
      have HL := Lib.hid (hlv.kept K1 (fun b hb e => by subst e; exact (a2 j b hb).2 hg))
      have HM := Lib.hid (fun hh => markIntS_any (T j) (.slice AL l[j].2.2.length cL) l[j].2.2 (kk + 1 + 1) _ hcx (by omega) hh HL.out)
      have HO := Lib.hid hO1
      have HK1 := Lib.hid K1
      have HROW := Lib.hid hrow
      have HSAME := Lib.hid hsame
      have HKEPT := Lib.hid hkept
      have HNX := Lib.hid hnx
      have HKK := Lib.hid hkk
      have hne : ¬ (j * 3 = j * 3 + 1) := by omega
      rw [← hkk]
      clear hown hO1 K1 hrow hsame hkept hnx hkk hlv hc hcs h3v hcj
      generalize ds[j * 3] = y1 at h1
      generalize ds[j * 3 + 1] = y2 at h2
      go_wp2_with fail
      with_reducible refine (HM.out (by omega)).mono ?_
      rintro e w2 ⟨rfl, _, hk2⟩
      have HK2 := Lib.hid hk2
      clear hk2
      go_wp2_with fail
      go_roundw
      case rel =>
        have KT : Kept S wr w2 := (HK1.out.mono (fun b hb => by subst hb; exact a1 _ hg)).trans (HK2.out.mono (fun b hb => (a2 j b hb).1))
        refine ⟨j + 1, _, by omega, by go_num, ?_, ?_, HO.out.kept HK2.out (fun b hb hb' => (a2 j b hb').2 hb), ?_, ?_, HKEPT.out.trans KT⟩
        · rw [HNX.out]
          have := HKK.out
          show Value.int .i64 _ = _
          congr 1
          have hrb : runBN l[j] = 2 + l[j].2.2.length := rfl
          omega
        · simp; exact hdl
        · intro i hi r hr
          rw [List.getElem?_set_ne (by omega), List.getElem?_set_ne (by omega)]
          exact HSAME.out i (by omega) r hr
        · intro i cs x hi h1 h2
          obtain ⟨lv, e, hl2⟩ := HROW.out i cs x (by omega) h1 h2
          exact ⟨lv, e, (hl2.kept HK1.out (fun b hb e => by subst e; exact (a2 i b hb).2 hg)).kept HK2.out (fun b hb hb' => by have := a3 i j b hb hb'; omega)⟩
      case measure => simp [intOf]; omega
    · obtain rfl : j = l.length := by omega
      rw [List.take_length]
      have HK := Lib.hid hkept
      go_wp2_with fail
      go_ret
      exact ⟨rfl, HK.out⟩

end Go.Proofs.Ytlgdmafgbmnjdaa
