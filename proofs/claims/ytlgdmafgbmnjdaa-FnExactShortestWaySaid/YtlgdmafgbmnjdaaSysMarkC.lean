/- Bigraphs and systems marked: the number that is handed on, and what stays. -/
import Derived.Test.YtlgdmafgbmnjdaaProg
import Derived.Test.YtlgdmafgbmnjdaaSysMarkB
set_option linter.unusedVariables false
namespace Go.Proofs.Ytlgdmafgbmnjdaa
open Go.RowKit

def runBig (x : Big) : Nat := 1 + (x.2.1.map runBN).sum + x.2.2.1.length + 1 + x.2.2.2.2.1.length + 2 * x.2.2.2.2.2.length
theorem runBN_le (l : List BN) : (l.map runBN).sum ≤ 2 * costL costBN l := by
  have h1 : ∀ l : List BN, (l.map runBN).sum = 2 * l.length + (l.map costBN).sum := by
    intro l
    induction l with
    | nil => rfl
    | cons a r ih => simp only [List.map_cons, List.sum_cons, List.length_cons, ih, runBN, costBN]; omega
  have := h1 l
  unfold costL
  omega
theorem runBig_le (x : Big) : runBig x ≤ 2 + 2 * costBig x := by
  have := runBN_le x.2.1
  have a : x.2.2.2.2.1.length ≤ costL costStr x.2.2.2.2.1 := by unfold costL; omega
  have b : x.2.2.2.2.2.length ≤ costL costBW x.2.2.2.2.2 := by unfold costL; omega
  unfold runBig costBig
  omega
theorem runs_le {l : List Big} (h : costL costBig l ≤ 16777216) (j : Nat) : ((l.take j).map runBig).sum ≤ 100000000 := by
  have h1 : ∀ l : List Big, (l.map runBig).sum ≤ 2 * l.length + 2 * (l.map costBig).sum := by
    intro l
    induction l with
    | nil => simp
    | cons a r ih =>
      have := runBig_le a
      simp only [List.map_cons, List.sum_cons, List.length_cons]
      omega
  have h2 : ((l.take j).map runBig).sum ≤ (l.map runBig).sum := by
    conv => rhs; rw [← List.take_append_drop j l]
    rw [List.map_append, List.sum_append]
    omega
  have h3 := h1 l
  unfold costL at h
  omega

theorem Own.get {w : World} {S : Nat → Prop} {g o n c : Nat} {cs : List Value} (h : Own w S (.slice (some ⟨g, o, none⟩) n c) n cs) {j : Nat} {u : Value} (hj : cs[j]? = some u) : S g ∧ w.cell? ⟨g, o + j, none⟩ = some u ∧ w.frozen? ⟨g, o + j, none⟩ = false := by
  obtain ⟨g', o', c', e, hg, hc⟩ := h.at_ (List.getElem?_eq_some_iff.1 hj).1
  cases e
  exact ⟨hg, hc j u hj⟩

set_option maxRecDepth 100000 in
set_option maxHeartbeats 8000000 in
theorem markBigraphS_any (S : Nat → Prop) (v : Value) (l : List Big) (k : Int) (w : World) (hn : costL costBig l ≤ 16777216) (hk0 : 0 < k) (hk1 : k ≤ 100000000) (hv : OSl OBig 6 w S v l) :
    Calls Try.prog 56 #[v, .int .i64 k] w fun e w' => e = .returned (.int .i64 (k + ((l.map runBig).sum : Nat))) ∧ Kept S w w' := by
  obtain ⟨css, S0, T, h0, hl, hsz, hrows, a1, a2, a3⟩ := hv
  obtain ⟨A, c, e, _⟩ := id h0
  subst e
  have hln : l.length ≤ 16777216 := cost_len hn
  have HC := Lib.hid (fun x (hx : x ∈ l) => cost_at hn hx)
  have HN := Lib.hid hn
  have H0 := Lib.hid h0
  have HR := Lib.hid hrows
  have HSZ := Lib.hid hsz
  clear h0 hrows hn hsz
  go_enter Try.func56, Try.ntmps56
  go_wp2_with fail
  go_loopw [1, 5] (fun kk i wr => ∃ (j : Nat) (ds : List Value), j ≤ l.length ∧ i = .int .i64 j ∧ kk = .int .i64 (k + (((l.take j).map runBig).sum : Nat)) ∧ ds.length = l.length * 6 ∧ Own wr S0 (.slice A l.length c) l.length ds ∧
      (∀ i, j ≤ i → ∀ r, r < 6 → ds[i * 6 + r]? = css.flatten[i * 6 + r]?) ∧ (∀ (i : Nat) cs x, j ≤ i → css[i]? = some cs → l[i]? = some x → OBig wr (T i) cs x) ∧ Kept S w wr)
    (fun _ i _ => l.length - (intOf i).toNat)
  case atStart => exact ⟨0, css.flatten, Nat.zero_le _, rfl, by simp, by rw [flat_length HSZ.out, hl], H0.out, fun _ _ _ _ => rfl, fun i cs x _ h1 h2 => HR.out i cs x h1 h2, Kept.refl _ _⟩
  case round =>
    obtain ⟨j, ds, hj, rfl, rfl, hdl, hown, hsame, hrow, hkept⟩ := hrel
    by_cases hlt : j < l.length
    · have hcj : css[j]? = some (css[j]'(by omega)) := List.getElem?_eq_getElem (by omega)
      obtain ⟨nv, sv, ov, iv, S1, S2, S3, S4, hcs, ⟨m1, m2, m3, m4⟩, ⟨s1, s2, s3, s4⟩, d1, d2, d3⟩ := hrow j _ _ (Nat.le_refl _) hcj (List.getElem?_eq_getElem hlt)
      have hnx := sum_next runBig l j _ (List.getElem?_eq_getElem hlt)
      have hcx := HC.out _ (List.getElem_mem hlt)
      have hle : ((l.take j).map runBig).sum ≤ 100000000 := runs_le HN.out j
      obtain ⟨g, o, c', e, hg, _⟩ := hown.at_ (k := j * 6) (by omega)
      cases e
      obtain ⟨N1, e1, rfl⟩ := m1.form
      obtain ⟨N2, e2, rfl, _⟩ := id m2
      obtain ⟨N3, e3, rfl⟩ := m3.form
      obtain ⟨N4, e4, rfl⟩ := m4.form
      have q : ∀ r u, r < 6 → (css[j]'(by omega))[r]? = some u → ds[j * 6 + r]? = some u := fun r u hr hu => by
        rw [hsame j (Nat.le_refl _) r hr]
        exact flat_at HSZ.out hcj hu
      have v0 := q 0 _ (by omega) (by rw [hcs]; rfl)
      have v1 := q 1 _ (by omega) (by rw [hcs]; rfl)
      have v2 := q 2 _ (by omega) (by rw [hcs]; rfl)
      have v3 := q 3 _ (by omega) (by rw [hcs]; rfl)
      have v4 := q 4 _ (by omega) (by rw [hcs]; rfl)
      have v5 := q 5 _ (by omega) (by rw [hcs]; rfl)
      obtain ⟨_, h0, f0⟩ := hown.get v0
      obtain ⟨_, h1, _⟩ := hown.get v1
      rw [Nat.add_zero] at h0 f0
      rw [← Nat.add_assoc] at h1
      have hx1 := runBN_le l[j].2.1
      have hcn : costL costBN l[j].2.1 ≤ 16777216 := by unfold costBig at hcx; omega
      have hcs2 : l[j].2.2.1.length ≤ 16777216 := by unfold costBig at hcx; omega
      have hcs3 : l[j].2.2.2.2.1.length ≤ 16777216 := by unfold costBig costL at hcx; omega
      have hcs4 : l[j].2.2.2.2.2.length ≤ 16777216 := by unfold costBig costL at hcx; omega
      have hrb : runBig l[j] = 1 + (l[j].2.1.map runBN).sum + l[j].2.2.1.length + 1 + l[j].2.2.2.2.1.length + 2 * l[j].2.2.2.2.2.length := rfl
      obtain ⟨kk, hkk⟩ : ∃ kk, kk = k + (((l.take j).map runBig).sum : Nat) := ⟨_, rfl⟩
      have hkk0 : 0 < kk := by omega
      have hkk1 : kk ≤ 200000000 := by omega
      have sep : ∀ b, T j b → ¬ b = g := fun b hb e => by subst e; exact (a2 j b hb).2 hg
      have K1 : Kept (fun b => b = g) wr (wr.setCell ⟨g, o + j * 6, none⟩ (.int .i64 kk)) := (Kept.refl (fun b => b = g) wr).setCell (p := ⟨g, o + j * 6, none⟩) rfl _
      have hO1 := hown.set (j * 6) (.int .i64 kk) rfl (by omega)
      have M1 := Lib.hid (m1.kept OBN_keep K1 (fun b hb => sep b (s1 b hb)))
      have M2 := Lib.hid (m2.kept K1 (fun b hb => sep b (s2 b hb)))
      have M3 := Lib.hid (m3.kept OStr_keep K1 (fun b hb => sep b (s3 b hb)))
      have M4 := Lib.hid (m4.kept OBW_keep K1 (fun b hb => sep b (s4 b hb)))
      have HO := Lib.hid hO1
      have HK1 := Lib.hid K1
      have HROW := Lib.hid hrow
      have HSAME := Lib.hid hsame
      have HKEPT := Lib.hid hkept
      have HNX := Lib.hid hnx
      have HKK := Lib.hid hkk
      have HRB := Lib.hid hrb
      have SEP := Lib.hid sep
      have HM1 := Lib.hid (markNodeS_any S1 (.slice N1 l[j].2.1.length e1) l[j].2.1 (kk + 1) _ hcn (by omega) (by omega) M1.out)
      have z2 : (ds.set (j * 6) (.int .i64 kk))[j * 6 + 2]? = some (.slice N2 l[j].2.2.1.length e2) := by rw [List.getElem?_set_ne (by omega)]; exact v2
      have z3 : (ds.set (j * 6) (.int .i64 kk))[j * 6 + 3]? = some (.int .i64 l[j].2.2.2.1) := by rw [List.getElem?_set_ne (by omega)]; exact v3
      have z4 : (ds.set (j * 6) (.int .i64 kk))[j * 6 + 4]? = some (.slice N3 l[j].2.2.2.2.1.length e3) := by rw [List.getElem?_set_ne (by omega)]; exact v4
      have z5 : (ds.set (j * 6) (.int .i64 kk))[j * 6 + 5]? = some (.slice N4 l[j].2.2.2.2.2.length e4) := by rw [List.getElem?_set_ne (by omega)]; exact v5
      have Z := Lib.hid (And.intro z2 (And.intro z3 (And.intro z4 z5)))
      rw [← hkk]
      clear hown hO1 K1 hrow hsame hkept hnx hkk hcs hcj m1 m2 m3 m4 q v0 v1 v2 v3 v4 v5 z2 z3 z4 z5 hrb sep hcx
      go_wp2_with fail
      with_reducible refine HM1.out.mono ?_
      rintro e w2 ⟨rfl, hk2⟩
      have hO2 := HO.out.kept hk2 (fun b hb hb' => (a2 j b (s1 b hb')).2 hb)
      have M2' := Lib.hid (M2.out.kept hk2 (fun b hb hb' => (d1 b hb').1 hb))
      have M3' := Lib.hid (M3.out.kept OStr_keep hk2 (fun b hb hb' => (d1 b hb').2.1 hb))
      have M4' := Lib.hid (M4.out.kept OBW_keep hk2 (fun b hb hb' => (d1 b hb').2.2 hb))
      obtain ⟨_, h2, _⟩ := hO2.get Z.out.1
      rw [← Nat.add_assoc] at h2
      have HO2 := Lib.hid hO2
      have HK2 := Lib.hid hk2
      have HM2 := Lib.hid (markIntS_any S2 (.slice N2 l[j].2.2.1.length e2) l[j].2.2.1 (kk + 1 + ((l[j].2.1.map runBN).sum : Nat)) w2 hcs2 (by omega) (by omega) M2'.out)
      clear hO2 hk2 M2 M3 M4
      go_wp2_with fail
      with_reducible refine HM2.out.mono ?_
      rintro e w3 ⟨rfl, _, hk3⟩
      obtain ⟨kE, hkE⟩ : ∃ kE, kE = kk + 1 + ((l[j].2.1.map runBN).sum : Nat) + (l[j].2.2.1.length : Int) := ⟨_, rfl⟩
      have HKE := Lib.hid hkE
      have hkE0 : 0 < kE := by omega
      have hkE1 : kE ≤ 300000000 := by omega
      rw [← hkE]
      have hO3 := HO2.out.kept hk3 (fun b hb hb' => (a2 j b (s2 b hb')).2 hb)
      obtain ⟨_, h3, f3⟩ := hO3.get Z.out.2.1
      have K4 : Kept (fun b => b = g) w3 (w3.setCell ⟨g, o + j * 6 + 3, none⟩ (.int .i64 kE)) := (Kept.refl (fun b => b = g) w3).setCell (p := ⟨g, o + j * 6 + 3, none⟩) rfl _
      have hO4 := hO3.set (j * 6 + 3) (.int .i64 kE) rfl (by simp; omega)
      have y4 : ((ds.set (j * 6) (.int .i64 kk)).set (j * 6 + 3) (.int .i64 kE))[j * 6 + 4]? = some (.slice N3 l[j].2.2.2.2.1.length e3) := by rw [List.getElem?_set_ne (by omega)]; exact Z.out.2.2.1
      have y5 : ((ds.set (j * 6) (.int .i64 kk)).set (j * 6 + 3) (.int .i64 kE))[j * 6 + 5]? = some (.slice N4 l[j].2.2.2.2.2.length e4) := by rw [List.getElem?_set_ne (by omega)]; exact Z.out.2.2.2
      obtain ⟨_, h4, _⟩ := hO4.get y4
      obtain ⟨_, h4o, _⟩ := hO3.get (show (ds.set (j * 6) (.int .i64 kk))[j * 6 + 4]? = some _ from Z.out.2.2.1)
      rw [← Nat.add_assoc] at h3 f3 hO4 h4 h4o
      have M3'' := (M3'.out.kept OStr_keep hk3 (fun b hb hb' => (d2 b hb').1 hb)).kept OStr_keep K4 (fun b hb => SEP.out b (s3 b hb))
      have M4'' := Lib.hid ((M4'.out.kept OBW_keep hk3 (fun b hb hb' => (d2 b hb').2 hb)).kept OBW_keep K4 (fun b hb => SEP.out b (s4 b hb)))
      obtain ⟨cs3, hc3, ho3⟩ := M3''.own
      rw [Nat.mul_one] at hc3
      have HM3 := Lib.hid (markStringS_any S3 (.slice N3 l[j].2.2.2.2.1.length e3) l[j].2.2.2.2.1.length cs3 (kE + 1) _ hcs3 (by omega) (by omega) hc3 ho3)
      have HK3 := Lib.hid hk3
      have HK4 := Lib.hid K4
      have HO4 := Lib.hid hO4
      have Y5 := Lib.hid y5
      clear hO3 hO4 hk3 K4 y4 y5 M3'' M3' M4' ho3 hc3 HO HO2 hkE
      go_wp2_with fail
      with_reducible refine HM3.out.mono ?_
      rintro e w5 ⟨rfl, hk5⟩
      have hO5 := HO4.out.kept hk5 (fun b hb hb' => (a2 j b (s3 b hb')).2 hb)
      obtain ⟨_, h5, _⟩ := hO5.get Y5.out
      rw [← Nat.add_assoc] at h5
      have M4x := M4''.out.kept OBW_keep hk5 (fun b hb hb' => d3 b hb' hb)
      obtain ⟨cs4, hc4, ho4⟩ := M4x.own
      have HM4 := Lib.hid (markWireS_any S4 (.slice N4 l[j].2.2.2.2.2.length e4) l[j].2.2.2.2.2.length cs4 (kE + 1 + (l[j].2.2.2.2.1.length : Int)) w5 hcs4 (by omega) (by omega) hc4 ho4)
      have HO5 := Lib.hid hO5
      have HK5 := Lib.hid hk5
      clear hO5 hk5 M4x ho4 hc4
      go_wp2_with fail
      with_reducible refine HM4.out.mono ?_
      rintro e w6 ⟨rfl, hk6⟩
      have HK6 := Lib.hid hk6
      clear hk6
      go_wp2_with fail
      go_roundw
      case rel =>
        have inT : ∀ (Sx : Nat → Prop), (∀ b, Sx b → T j b) → ∀ b, Sx b → S b := fun Sx h b hb => (a2 j b (h b hb)).1
        have inG : ∀ b, b = g → S b := fun b hb => by subst hb; exact a1 _ hg
        have KT : Kept S wr w6 := (((((HK1.out.mono inG).trans (HK2.out.mono (inT S1 s1))).trans (HK3.out.mono (inT S2 s2))).trans (HK4.out.mono inG)).trans (HK5.out.mono (inT S3 s3))).trans (HK6.out.mono (inT S4 s4))
        refine ⟨j + 1, _, by omega, by go_num, ?_, ?_, HO5.out.kept HK6.out (fun b hb hb' => (a2 j b (s4 b hb')).2 hb), ?_, ?_, HKEPT.out.trans KT⟩
        · rw [HNX.out]
          have e1' := HKK.out
          have e2' := HKE.out
          have e3' := HRB.out
          show Value.int .i64 _ = _
          congr 1
          omega
        · simp; exact hdl
        · intro i hi r hr
          rw [List.getElem?_set_ne (by omega), List.getElem?_set_ne (by omega)]
          exact HSAME.out i (by omega) r hr
        · intro i cs x hi h1 h2
          have hij : i ≠ j := by omega
          have gi : ∀ b, T i b → ¬ b = g := fun b hb e => by subst e; exact (a2 i b hb).2 hg
          have si : ∀ (Sx : Nat → Prop), (∀ b, Sx b → T j b) → ∀ b, T i b → ¬ Sx b := fun Sx h b hb hb' => hij (a3 i j b hb (h b hb'))
          have := HROW.out i cs x (by omega) h1 h2
          have := OBig_keep.kept _ _ _ _ _ _ this HK1.out gi
          have := OBig_keep.kept _ _ _ _ _ _ this HK2.out (si S1 s1)
          have := OBig_keep.kept _ _ _ _ _ _ this HK3.out (si S2 s2)
          have := OBig_keep.kept _ _ _ _ _ _ this HK4.out gi
          have := OBig_keep.kept _ _ _ _ _ _ this HK5.out (si S3 s3)
          exact OBig_keep.kept _ _ _ _ _ _ this HK6.out (si S4 s4)
      case measure => simp [intOf]; omega
    · obtain rfl : j = l.length := by omega
      rw [List.take_length]
      have HK := Lib.hid hkept
      go_wp2_with fail
      go_ret
      exact ⟨rfl, HK.out⟩

end Go.Proofs.Ytlgdmafgbmnjdaa
