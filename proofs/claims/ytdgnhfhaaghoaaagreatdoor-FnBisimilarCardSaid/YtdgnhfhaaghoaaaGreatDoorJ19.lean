/- The reference: grouping, the rounds, the last one: walked. -/
import Derived.Test.YtdgnhfhaaghoaaaGreatDoorProg
import Derived.Test.YtdgnhfhaaghoaaaGreatDoorJ13
import Derived.Test.YtdgnhfhaaghoaaaGreatDoorJ6
import Derived.Lib.QuietBelow
set_option linter.unusedSimpArgs false
set_option linter.unusedVariables false
namespace Go.Proofs.YtdgnhfhaaghoaaaGreatDoor
open Go.RowKit Go.Sort

theorem owns_someR {w : World} {B : Nat} {e : TypeId} {s : Nat} {v : Value} {n : Nat} {xs : List Value} (h : w.ownsRow B e s v n xs) (hn : 0 < n) : ∃ b, v.ownBlock = some b := by
  rcases h.2 with ⟨_, e⟩ | ⟨g, c, cur, rfl, _⟩
  · omega
  · exact ⟨g, rfl⟩
/-- Rows read, in all worlds that come after. -/
theorem rss_rows {w : World} {A : Option Addr} {c : Nat} {xss : List (List Int)} {X : Nat → List Int} (h : RSS w (.slice A xss.length c) xss) (hX : ∀ j, X j = xss.getD j default) (h0 : 0 < xss.length) :
    ∃ b o, A = some ⟨b, o, none⟩ ∧ ∀ j, j < xss.length → ∃ Aj aj, ∀ W, Below w.heap.size w W → W.cell? ⟨b, o + j, none⟩ = some (.slice Aj (X j).length aj) ∧ Cells W Aj (ints (X j)) := by
  obtain ⟨A', c', vs, e, hm, hl, hcs, hr⟩ := h
  cases e
  obtain ⟨b, o, rfl, hc⟩ := hcs.at_ (k := 0) (by omega)
  refine ⟨b, o, rfl, fun j hj => ?_⟩
  obtain ⟨Aj, aj, e, _, hA⟩ := hr j _ _ (List.getElem?_eq_getElem (by omega)) (List.getElem?_eq_getElem hj)
  have hx : X j = xss[j] := by rw [hX]; simp [List.getD, hj]
  have h1 := hc j _ (List.getElem?_eq_getElem (by omega))
  rw [e] at h1
  exact ⟨Aj, aj, fun W hW => ⟨by rw [hx]; exact cell_below hW h1 (lt_of_cell h1), by rw [hx]; exact hA.below hW⟩⟩

set_option maxRecDepth 100000 in
set_option maxHeartbeats 4000000 in
theorem l11Grouped_any (v : Value) (xss : List (List Int)) (w : World) (hn : xss.length ≤ 1000000) (hs : Small xss) (hv : RSS w v xss) :
    Calls Tryz.prog 133 #[v] w fun e w' => ∃ r, e = .returned r ∧ w'.ownsRow w.heap.size 3 1 r (firstOf xss).length (ints (firstOf xss)) ∧ Below w.heap.size w w' := by
  obtain ⟨i0, hi0, hz0, hz1, hz2⟩ := info_parts info_ci
  obtain ⟨X, hX⟩ : ∃ X : Nat → List Int, X = fun j => xss.getD j default := ⟨_, rfl⟩
  have HX := Lib.hid (fun j => show X j = xss.getD j default from by rw [hX])
  have HSM := Lib.hid (show ∀ j, j < xss.length → (X j).length ≤ 16777216 from fun j hj => hs _ (by rw [HX.out]; simp [List.getD, hj]))
  have HT := Lib.hid (show ∀ k, k < xss.length → (firstOf xss).take (k + 1) = (firstOf xss).take k ++ [idxR xss.length fun j => decide (X j = X k)] from fun k h => by rw [first_take h, hX])
  have HALL := Lib.hid (show (firstOf xss).take xss.length = firstOf xss from List.take_of_length_le (by rw [first_len]; omega))
  have HLEN := Lib.hid (first_len xss)
  have hv' := hv
  obtain ⟨A, c, vs, rfl, _, _, _, _⟩ := hv'
  have HR := Lib.hid (fun h0 => rss_rows (X := X) hv HX.out h0)
  have HOWN := Lib.hid (show (w.alloc (.cells #[] 3)).ownsRow w.heap.size 3 1 (.slice (some ⟨w.heap.size, 0, none⟩) 0 0) 0 [] from made_row w 3)
  have HB0 := Lib.hid ((Below.refl w.heap.size w).alloc (Nat.le_refl _) (.cells #[] 3))
  clear hv hX hs
  go_enter Tryz.func133, Tryz.ntmps133
  go_wp2_with fail
  go_loopw [3, 4] (fun u i wr => ∃ k : Nat, k ≤ xss.length ∧ i = .int .i64 k ∧ wr.ownsRow w.heap.size 3 1 u k (ints ((firstOf xss).take k)) ∧ Below w.heap.size w wr)
    (fun _ i _ => xss.length - (intOf i).toNat)
  case atStart => exact ⟨0, Nat.zero_le _, rfl, HOWN.out, HB0.out⟩
  case round =>
    clear HOWN HB0
    obtain ⟨k, hk, rfl, hown, hbel⟩ := hrel
    obtain ⟨AO, cO, rfl, hown⟩ := owns_form hown
    by_cases hlt : k < xss.length
    · obtain ⟨b, o, rfl, hrow⟩ := HR.out (by omega)
      have HO := Lib.hid hown
      have HBE := Lib.hid hbel
      have HROW := Lib.hid hrow
      have HTK := Lib.hid (HT.out k hlt)
      clear hown hbel hrow
      go_wp2_with fail
      go_loopw [5] (fun q wr => ∃ j : Nat, j ≤ k ∧ q = .int .i64 j ∧ NoB (fun i => decide (X i = X k)) j ∧ wr.ownsRow w.heap.size 3 1 (.slice AO k cO) k (ints ((firstOf xss).take k)) ∧ Below w.heap.size w wr)
        (fun q _ => k - (intOf q).toNat)
      case atStart => exact ⟨0, Nat.zero_le _, rfl, fun j hj => by omega, HO.out, HBE.out⟩
      case round =>
        clear HO HBE
        obtain ⟨j, hj, rfl, hno, hown, hbel⟩ := hrel
        obtain ⟨Aj, aj, hRj⟩ := HROW.out j (by omega)
        obtain ⟨Ak, ak, hRk⟩ := HROW.out k hlt
        obtain ⟨cj, hCj⟩ := hRj wr hbel
        obtain ⟨ck, hCk⟩ := hRk wr hbel
        have hsz := hbel.size
        have hsj := HSM.out j (by omega)
        have hsk := HSM.out k hlt
        have HC := Lib.hid (fun d os => Calls.regrown_of (l1Same_any Aj Ak aj ak (X j) (X k) (grow (redrawn wr d) os) hsj hsk (hCj.below (below_regrown wr d os)) (hCk.below (below_regrown wr d os))))
        have hcj := cell_regrown cj
        have hck := cell_regrown ck
        have q0 : (0 : Int) ≤ (j : Int) := by omega
        have q1 : (j : Int) < (xss.length : Int) := by omega
        have q2 : (0 : Int) ≤ (k : Int) := by omega
        have q3 : (k : Int) < (xss.length : Int) := by omega
        have HO := Lib.hid hown
        have HBE := Lib.hid hbel
        by_cases he : X j = X k
        · have HY := Lib.hid (idxR_some (p := fun i => decide (X i = X k)) (n := xss.length) (by omega) hno (by simpa using he))
          have hsame : sameI (X j) (X k) = true := by unfold sameI; simpa using he
          rw [hsame] at HC
          clear hno hown hbel hRj hRk hCj hCk he hsame cj ck hsj hsk
          generalize X j = xj at *
          generalize hxk : X k = xk at *
          have HXK := Lib.hid hxk
          clear hxk
          go_wp2_with fail
          refine wp_region_quiet_below (by kernel_rfl) (by kernel_rfl) ?_
          repeat (quiet_step (first | exact HC.out _ _))
          refine wpQuiet_nil ?_
          intro _ hw'
          obtain ⟨⟨dq, osq⟩, hw''⟩ := hw'
          subst hw''
          have hb := below_regrown wr dq osq
          clear hcj hck
          generalize grow (redrawn wr dq) osq = W2 at *
          have HO2 := Lib.hid (owns_below HO.out hb (Nat.le_refl _))
          have HB2 := Lib.hid (HBE.out.trans (hb.mono hsz))
          have hsz2 := HB2.out.size
          have HTK2 := Lib.hid (show (firstOf xss).take (k + 1) = (firstOf xss).take k ++ [(j : Int)] from by rw [HTK.out, HY.out])
          clear hb
          go_wp2_with (at_builtin; refine wpList_append_own _ rfl _ _ 30 rfl w.heap.size 3 i0 (.int .i64 0) 1 8 Tryz.underlying30 hi0 hz0 hz1 hz2 rfl (by decide) _ _ _ rfl (HO2.out.alloc _) ⟨W2.heap.size, 0, none⟩ 1 1 [.int .i64 j] rfl rfl ?c1 ?c2 ?c3 ?c4 ?c5 ?_)
          case c1 => intro j u hj; match j, hj with | 0, hj => (simp at hj; subst hj; simp [Addr.add])
          case c2 => intro u hu; simp at hu; subst hu; rfl
          case c3 => unfold maxLen; omega
          case c4 => omega
          case c5 => simp; omega
          intro v3 w3 hown3 hgrow3 _
          have HO3 := Lib.hid (show w3.ownsRow w.heap.size 3 1 v3 (k + 1) (ints ((firstOf xss).take (k + 1))) from by
            have hints : ints ((firstOf xss).take (k + 1)) = ints ((firstOf xss).take k) ++ [.int .i64 j] := by rw [HTK2.out]; simp only [ints, List.map_append, List.map_cons, List.map_nil]
            rw [hints]
            simpa [ints] using hown3)
          have HG3 := Lib.hid ((HB2.out.alloc hsz2 _).grown hgrow3 (by simp; omega) (fun q hq => (HO2.out.lt q hq).1))
          clear hown3 hgrow3
          go_wp2_with fail
          go_roundw
          case rel => exact ⟨k + 1, by omega, by go_num, HO3.out, HG3.out⟩
          case measure => simp [intOf]; omega
        · have hjk : j < k := by
            rcases Nat.lt_or_eq_of_le hj with h | h
            · exact h
            · subst h; exact absurd rfl he
          have HN := Lib.hid (show NoB (fun i => decide (X i = X k)) (j + 1) from none_next hno (by simpa using he))
          have hsame : sameI (X j) (X k) = false := by unfold sameI; simpa using he
          rw [hsame] at HC
          clear hno hown hbel hRj hRk hCj hCk he hsame cj ck hsj hsk
          generalize X j = xj at *
          generalize hxk : X k = xk at *
          have HXK := Lib.hid hxk
          clear hxk
          go_wp2_with fail
          refine wp_region_quiet_below (by kernel_rfl) (by kernel_rfl) ?_
          repeat (quiet_step (first | exact HC.out _ _))
          refine wpQuiet_nil ?_
          intro _ hw'
          obtain ⟨⟨dq, osq⟩, hw''⟩ := hw'
          subst hw''
          have hb := below_regrown wr dq osq
          clear hcj hck
          generalize grow (redrawn wr dq) osq = W2 at *
          have HO2 := Lib.hid (owns_below HO.out hb (Nat.le_refl _))
          have HB2 := Lib.hid (HBE.out.trans (hb.mono hsz))
          clear hb
          go_wp2_with fail
          go_roundw
          case rel => exact ⟨j + 1, by omega, by go_num, HN.out, HO2.out, HB2.out⟩
          case measure => simp [intOf]; omega
    · obtain rfl : k = xss.length := by omega
      rw [HALL.out] at hown
      have HO := Lib.hid hown
      have HBE := Lib.hid hbel
      clear hown hbel
      go_wp2_with fail
      go_ret
      exact ⟨_, rfl, by rw [HLEN.out]; exact HO.out, HBE.out⟩

theorem TRN.wider {w : World} {B B' : Nat} {u : Value} {l : List (List Int)} (h : TRN w B u l) (hB : B' ≤ B) : TRN w B' u l := by
  obtain ⟨vs, h1, h2, h3, h4⟩ := h
  exact ⟨vs, owns_mono h1 hB, fun i v xs a b => owns_mono (h2 i v xs a b) hB, h3, h4⟩
def Differ (l : Lab) (m : Nat) : Prop := ∀ j, j < m → partsL l (j + 1) ≠ partsL l j
def lenS : Value → Nat
  | .slice _ n _ => n
  | _ => 0
set_option maxRecDepth 100000 in
set_option maxHeartbeats 8000000 in
theorem l11Rounds_any (v : Value) (l : Lab) (w : World) (hs : SmallLab l) (hsl : l.steps.length ≤ 1000000) (h1 : 1 ≤ l.shows.length) (hn : l.shows.length ≤ 40) (hst : StepsN l.shows.length l.steps) (hact : ∀ s ∈ l.steps, 0 ≤ s.2.1 ∧ s.2.1 < 8) (hv : RLab w v l) :
    Calls Tryz.prog 58 #[v] w fun e w' => ∃ u m, e = .returned u ∧ IsRounds l m ∧ TRN w' w.heap.size u (rowsTo (partsL l) (m + 1)) ∧ Below w.heap.size w w' := by
  have HV := Lib.hid (show ∀ W, Below w.heap.size w W → RLab W v l from fun W hb => hv.below hb)
  obtain ⟨sv, tv, rfl, hsv, htv⟩ := hv
  have HSV := Lib.hid (show ∀ W, Below w.heap.size w W → RSS W sv l.shows from fun W hb => hsv.below hb)
  obtain ⟨A1, c1', vs, rfl, _, _, _, _⟩ := hsv
  obtain ⟨D, d, rfl, _, _⟩ := htv
  obtain ⟨W0, hW0⟩ : ∃ W0, W0 = w.alloc (.cells #[.slice A1 l.shows.length c1', .slice D l.steps.length d] 27) := ⟨_, rfl⟩
  have hz0' : Below w.heap.size w W0 := by rw [hW0]; exact (Below.refl _ _).alloc (Nat.le_refl _) _
  have hs0 : W0.heap.size = w.heap.size + 1 := by rw [hW0]; simp
  have bx0 : W0.heap[w.heap.size]? = some (.cells #[.slice A1 l.shows.length c1', .slice D l.steps.length d] 27) := by rw [hW0]; exact heap_alloc_new _ _
  have HX := Lib.hid (show ∀ W, Below W0.heap.size W0 W → W.cell? ⟨w.heap.size, 0, none⟩ = some (.slice A1 l.shows.length c1') ∧ W.cell? ⟨w.heap.size, 1, none⟩ = some (.slice D l.steps.length d) from fun W hW => by
    have := (hW.block _ (by omega)).trans bx0
    exact ⟨cell_of_row _ _ _ _ _ _ this, cell_of_row _ _ _ _ _ _ this⟩)
  have HV := Lib.hid (show ∀ W, Below W0.heap.size W0 W → RLab W (.agg #[.slice A1 l.shows.length c1', .slice D l.steps.length d]) l from fun W hb => HV.out W (hz0'.trans (hb.mono hz0'.size)))
  have HG0 := Lib.hid (l11Grouped_any _ l.shows W0 (by omega) hs.2.2 (HSV.out W0 hz0'))
  have HG := Lib.hid (fun v xss W a b c => l11Grouped_any v xss W a b c)
  have HSIGN := Lib.hid (fun b c m i W (hi : i < l.shows.length) (hb : Below W0.heap.size W0 W) (hc : Cells W (some ⟨b, 0, none⟩) (ints (partsL l m))) => by
    have := l11Sign_any _ l (some ⟨b, 0, none⟩) c (partsL l m) i W hs hsl hst (parts_len l m) hn hi (parts_lt l m h1) (HV.out W hb) hc
    rw [parts_len] at this
    exact this)
  have HSL := Lib.hid (fun m i => signTo_len (ss := l.steps) (i := i) (parts_lt l m h1) 8)
  have HP0 := Lib.hid (shows_first l)
  have HPN := Lib.hid (fun m => signsN_first l m hact)
  have HRL := Lib.hid (fun k (h : ∀ j, j < k → partsL l (j + 1) ≠ partsL l j) => rounds_le l h1 h)
  have HPL := Lib.hid (fun m => parts_len l m)
  have HSAME := Lib.hid (fun B c d xs ys W a b e f => l1Same_any (some B) (some B) c d xs ys W a b e f)
  have HZ0 := Lib.hid hz0'
  have HW0 := Lib.hid hW0
  have hsz0 : w.heap.size ≤ W0.heap.size := by omega
  obtain ⟨x0, x1⟩ := HX.out W0 (Below.refl _ _)
  clear hst hact hs hW0 hz0' hs0 bx0
  go_enter Tryz.func58, Tryz.ntmps58
  rw [HW0.out] at x0 x1
  go_wp2_with fail
  rw [← HW0.out]
  refine HG0.out.mono ?_
  rintro e w1 ⟨r1, rfl, hr1, hb1⟩
  have hpos : 0 < (firstOf l.shows).length := by rw [first_len]; omega
  have hnn := owns_someR hr1 hpos
  obtain ⟨A2, c2, rfl, hr1⟩ := owns_form hr1
  have hs1 := hb1.size
  have HT1 := Lib.hid (TRN.push (u := .slice none 0 0) (l := []) (vs := []) (w2 := w1.alloc (.cells #[.slice A2 (firstOf l.shows).length c2] 30)) (u2 := .slice (some ⟨w1.heap.size, 0, none⟩) 1 1) (World.ownsRow_nil W0 _ _ _) (fun i v xs h => by simp at h) (fun i j v v' b _ h => by simp at h) (fun i v h => by simp at h) (Nat.le_refl _) hr1 hnn hb1
    (owns_mono (ownsRow_lit (xs := [.slice A2 (firstOf l.shows).length c2]) (heap_alloc_new _ _) rfl (by unfold maxLen; omega)) hs1) (Kept.of_below ((Below.refl _ w1).alloc (Nat.le_refl _) _) _))
  have HT1 := Lib.hid (show TRN (w1.alloc (.cells #[.slice A2 (firstOf l.shows).length c2] 30)) W0.heap.size (.slice (some ⟨w1.heap.size, 0, none⟩) 1 1) (rowsTo (partsL l) 1) from by
    have := HT1.out
    rw [HP0.out] at this
    rw [HP0.out]
    exact this)
  have HB1 := Lib.hid (hb1.alloc hs1 (.cells #[.slice A2 (firstOf l.shows).length c2] 30))
  clear hr1 hnn hb1 hpos x0 x1
  go_wp2_with fail
  go_loopw [3] (fun u wr => ∃ m : Nat, m + 1 ≤ l.shows.length ∧ (∃ g c, u = .slice (some ⟨g, 0, none⟩) (m + 1) c) ∧ Differ l m ∧ TRN wr W0.heap.size u (rowsTo (partsL l) (m + 1)) ∧ Below W0.heap.size W0 wr)
    (fun u _ => l.shows.length - lenS u)
  case atStart => exact ⟨0, h1, ⟨_, _, rfl⟩, fun j hj => by omega, HT1.out, HB1.out⟩
  case round =>
    clear HT1 HB1
    obtain ⟨m, hm, ⟨g, cg, rfl⟩, hdf, htab, hbel⟩ := hrel
    have HDF := Lib.hid hdf
    have HT := Lib.hid htab
    obtain ⟨g', cg', b, d', e, _, _, _, hcm, _, hdl, hCm⟩ := htab.at_ (i := m) (by rw [rowsTo_len]; omega)
    rw [rowsTo_len] at e
    cases e
    rw [rowsTo_at] at hcm hdl hCm
    have HCM := Lib.hid (show ∀ W, Below wr.heap.size wr W → Cells W (some ⟨b, 0, none⟩) (ints (partsL l m)) from fun W hW => hCm.below hW)
    have HGM := Lib.hid (show ∀ W, Below wr.heap.size wr W → W.cell? ⟨g, m, none⟩ = some (.slice (some ⟨b, 0, none⟩) (partsL l m).length d') from fun W hW => cell_below hW hcm (lt_of_cell hcm))
    have hplm := HPL.out m
    rw [hplm] at hcm
    obtain ⟨x0, x1⟩ := HX.out wr hbel
    have HBE := Lib.hid hbel
    have hsz := hbel.size
    have e1 : (((m : Int) + 1) - 1) = (m : Int) := by omega
    clear hdf htab hbel hCm hdl hplm
    obtain ⟨Wz, hWz⟩ : ∃ Wz, Wz = wr := ⟨_, rfl⟩
    have HWZ := Lib.hid hWz
    have HIN0 := Lib.hid (show TRN (wr.alloc (.cells #[] 30)) Wz.heap.size (.slice (some ⟨wr.heap.size, 0, none⟩) 0 0) (rowsTo (signL l.steps (partsL l m)) 0) from by rw [hWz]; exact TRN.nil (made_row _ _))
    have HB2 := Lib.hid (show Below Wz.heap.size Wz (wr.alloc (.cells #[] 30)) from by rw [hWz]; exact (Below.refl _ _).alloc (Nat.le_refl _) _)
    rw [← hWz] at HT HCM HGM HBE hsz
    clear hWz
    go_wp2_with fail
    go_loopw [5, 6] (fun u i wr => ∃ k : Nat, k ≤ l.shows.length ∧ i = .int .i64 k ∧ TRN wr Wz.heap.size u (rowsTo (signL l.steps (partsL l m)) k) ∧ Below Wz.heap.size Wz wr)
      (fun _ i _ => l.shows.length - (intOf i).toNat)
    case atStart => exact ⟨0, Nat.zero_le _, rfl, HIN0.out, HB2.out⟩
    case round =>
      clear HIN0 HB2 hcm x0 x1 HWZ
      obtain ⟨k, hk, rfl, htab, hbel⟩ := hrel
      have T := htab
      obtain ⟨vs, t1, t2, t3, t4⟩ := htab
      rw [rowsTo_len] at t1
      obtain ⟨AU, cU, rfl, t1⟩ := owns_form t1
      have hsr := hbel.size
      have hbW := HBE.out.trans (hbel.mono hsz)
      obtain ⟨x0, x1⟩ := HX.out wr hbW
      by_cases hlt : k < l.shows.length
      · have HR := Lib.hid (HSIGN.out b d' m k wr hlt hbW (HCM.out wr hbel))
        have HNX := Lib.hid (rowsTo_next (signL l.steps (partsL l m)) k)
        have HPOS := Lib.hid (show 0 < (signL l.steps (partsL l m) k).length from by simp [signL])
        have T1 := Lib.hid t1
        have T2 := Lib.hid t2
        have T3 := Lib.hid t3
        have T4 := Lib.hid t4
        have HB := Lib.hid hbel
        clear t1 t2 t3 t4 hbel T hbW
        go_wp2_with fail
        (with_reducible refine HR.out.mono ?_)
        rintro e w6 ⟨r, rfl, hr, hb6⟩
        have hnn := owns_someR hr HPOS.out
        obtain ⟨AR, cR, rfl, hr⟩ := owns_form hr
        have HR6 := Lib.hid hr
        have HN6 := Lib.hid hnn
        have HB6 := Lib.hid hb6
        have hs6 := hb6.size
        have HT16 := Lib.hid (owns_below T1.out hb6 (Nat.le_refl _))
        clear hr hb6 hnn x0 x1
        go_wp2_with (at_builtin; refine wpList_app el_ints rfl _ _ rfl Wz.heap.size _ _ _ rfl HT16.out [.slice AR (signL l.steps (partsL l m) k).length cR] rfl rfl rfl (one1 rfl) (by omega) (by omega) ?_; intro v7 w7 ho7 hk7 hm7)
        have HP := Lib.hid (TRN.push (x := signL l.steps (partsL l m) k) (w := wr) (l := rowsTo (signL l.steps (partsL l m)) k) (by rw [rowsTo_len]; exact T1.out) T2.out T3.out T4.out hsr HR6.out HN6.out HB6.out (by rw [rowsTo_len]; exact ho7) hk7)
        have HG' := Lib.hid (below_kept (HB.out.trans (HB6.out.mono hsr)) hk7 (fun q hq => (T1.out.lt q hq).1) (by omega))
        clear ho7 hk7 hm7
        go_wp2_with fail
        go_roundw
        case rel => exact ⟨k + 1, by omega, by go_num, by rw [HNX.out]; exact HP.out, HG'.out⟩
        case measure => simp [intOf]; omega
      · obtain rfl : k = l.shows.length := by omega
        clear t1 t2 t3 t4
        have hrss : RSS wr (.slice AU l.shows.length cU) (rowsTo (signL l.steps (partsL l m)) l.shows.length) := T.rows.rss (by rw [rowsTo_len]; omega) (fun xs hx => by
          obtain ⟨j, hj, rfl⟩ := List.getElem_of_mem hx
          rw [rowsTo_at]
          have h8 := HSL.out m j
          have h9 : 8 * (l.shows.length + 1) ≤ 8 * 41 := Nat.mul_le_mul_left _ (by omega)
          have h10 : (signL l.steps (partsL l m) j).length ≤ 1 + 8 * (l.shows.length + 1) := h8
          omega)
        have hsm : Small (rowsTo (signL l.steps (partsL l m)) l.shows.length) := fun xs hx => by
          obtain ⟨j, hj, rfl⟩ := List.getElem_of_mem hx
          rw [rowsTo_at]
          have h8 := HSL.out m j
          have h9 : 8 * (l.shows.length + 1) ≤ 8 * 41 := Nat.mul_le_mul_left _ (by omega)
          have h10 : (signL l.steps (partsL l m) j).length ≤ 1 + 8 * (l.shows.length + 1) := h8
          omega
        have HGR := Lib.hid (HG.out _ _ wr (by rw [rowsTo_len]; omega) hsm hrss)
        have HFIRST := Lib.hid (show firstOf (rowsTo (signL l.steps (partsL l m)) l.shows.length) = partsL l (m + 1) from HPN.out m)
        have HB := Lib.hid hbel
        clear T hrss hsm hbel hbW
        go_wp2_with fail
        (with_reducible refine HGR.out.mono ?_)
        rintro e w6 ⟨r, rfl, hr, hb6⟩
        rw [HFIRST.out] at hr
        have hpl := HPL.out (m + 1)
        have hpm := HPL.out m
        have hnn := owns_someR hr (by rw [hpl]; omega)
        obtain ⟨AR, cR, e6, _⟩ := owns_form hr
        have hb66 := HB.out.trans (hb6.mono hsr)
        have hfull : ∃ br, r = .slice (some ⟨br, 0, none⟩) (partsL l (m + 1)).length cR := by
          obtain ⟨br, hbr⟩ := hnn
          rcases hr.2 with ⟨e, _⟩ | ⟨g2, c2, cur2, e, _⟩
          · rw [e] at hbr; simp [Value.ownBlock] at hbr
          · rw [e] at e6; cases e6; exact ⟨g2, e⟩
        obtain ⟨br, rfl⟩ := hfull
        clear e6
        have HC6 := Lib.hid (l1Same_any (some ⟨br, 0, none⟩) (some ⟨b, 0, none⟩) cR d' (partsL l (m + 1)) (partsL l m) w6 (by rw [hpl]; omega) (by rw [hpm]; omega) (Cells.of_owns hr) (HCM.out w6 hb66))
        have HR6 := Lib.hid hr
        have HN6 := Lib.hid hnn
        have HB6 := Lib.hid hb66
        have hs6 := hb66.size
        have HPLE := Lib.hid hpl
        rw [hpl, hpm] at HC6
        clear hr hnn hb66 hb6 hpm
        rw [hpl]
        clear hpl x0 x1
        by_cases he : partsL l (m + 1) = partsL l m
        · have hsame : sameI (partsL l (m + 1)) (partsL l m) = true := by unfold sameI; simpa using he
          have HE := Lib.hid he
          rw [hsame] at HC6
          clear he hsame
          go_wp2_with fail
          (with_reducible refine HC6.out.mono ?_)
          rintro e w7 ⟨rfl, hb7⟩
          have HB7 := Lib.hid (HB6.out.trans (hb7.mono hs6))
          clear hb7
          go_wp2_with fail
          go_ret
          exact ⟨_, m, rfl, ⟨hm, HE.out, HDF.out⟩, (HT.out.below HB7.out (Nat.le_refl _)).wider hsz0, HZ0.out.trans ((HBE.out.trans (HB7.out.mono hsz)).mono hsz0)⟩
        · have hsame : sameI (partsL l (m + 1)) (partsL l m) = false := by unfold sameI; simpa using he
          have hdf : Differ l (m + 1) := fun j hj => by
            rcases Nat.lt_succ_iff_lt_or_eq.1 hj with h | h
            · exact HDF.out j h
            · rw [h]; exact he
          have hm2 := HRL.out (m + 1) hdf
          have HD2 := Lib.hid hdf
          have HNX := Lib.hid (rowsTo_next (partsL l) (m + 1))
          have HT2 := HT.out
          obtain ⟨vs, t1, t2, t3, t4⟩ := HT2
          rw [rowsTo_len] at t1
          have T1 := Lib.hid t1
          have T2 := Lib.hid t2
          have T3 := Lib.hid t3
          have T4 := Lib.hid t4
          rw [hsame] at HC6
          clear he hsame hdf t1 t2 t3 t4
          go_wp2_with fail
          (with_reducible refine HC6.out.mono ?_)
          rintro e w7 ⟨rfl, hb7⟩
          have HB7 := Lib.hid (HB6.out.trans (hb7.mono hs6))
          have hs7 := HB7.out.size
          have HR7 := Lib.hid (owns_mono (owns_below HR6.out hb7 (Nat.le_refl _)) hsr)
          have HT17 := Lib.hid (owns_below T1.out HB7.out (Nat.le_refl _))
          clear hb7
          go_wp2_with (at_builtin; refine wpList_app el_ints rfl _ _ rfl W0.heap.size _ _ _ rfl HT17.out [.slice (some ⟨br, 0, none⟩) l.shows.length cR] rfl rfl rfl (one1 rfl) (by omega) (by omega) ?_; intro v8 w8 ho8 hk8 hm8)
          have hform : ∃ g c, v8 = .slice (some ⟨g, 0, none⟩) (m + 1 + 1) c := by
            rcases ho8.2 with ⟨_, e⟩ | ⟨g2, c2, cur2, e, _⟩
            · omega
            · exact ⟨g2, c2, e⟩
          have HP := Lib.hid (TRN.push (x := partsL l (m + 1)) (w := Wz) (l := rowsTo (partsL l) (m + 1)) (by rw [rowsTo_len]; exact T1.out) T2.out T3.out T4.out hsz HR7.out HN6.out HB7.out (by rw [rowsTo_len, HPLE.out]; exact ho8) hk8)
          have HG' := Lib.hid (below_kept (HBE.out.trans (HB7.out.mono hsz)) hk8 (fun q hq => (T1.out.lt q hq).1) (by omega))
          clear ho8 hk8 hm8
          obtain ⟨g8, c8, rfl⟩ := hform
          go_wp2_with fail
          go_roundw
          case rel => exact ⟨m + 1, by omega, ⟨_, _, rfl⟩, HD2.out, by rw [HNX.out]; exact HP.out, HG'.out⟩
          case measure => simp [lenS]; omega

end Go.Proofs.YtdgnhfhaaghoaaaGreatDoor
