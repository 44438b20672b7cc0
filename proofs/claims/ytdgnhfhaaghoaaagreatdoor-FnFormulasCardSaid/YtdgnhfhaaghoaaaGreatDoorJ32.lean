/- A labelled system drawn: walked; only that it is one, small and in memory of its own, is told. -/
import Derived.Test.YtdgnhfhaaghoaaaGreatDoorProg
import Derived.Test.YtdgnhfhaaghoaaaGreatDoorJ18
import Derived.Test.YtdgnhfhaaghoaaaGreatDoorJ30
import Derived.Test.YtdgnhfhaaghoaaaGreatDoorJ31
import Derived.Test.YtdgnhfhaaghoaaaGreatDoorJ20
import Derived.Deep.CutBlock
set_option linter.unusedSimpArgs false
set_option linter.unusedVariables false
namespace Go.Proofs.YtdgnhfhaaghoaaaGreatDoor
open Go.RowKit

/-- What labelled gives. -/
def DLab (w w' : World) (u t : Value) : Prop := ∃ l : Lab, DSz l ∧ LRows w' w.heap.size u l.shows ∧ w'.ownsRow w.heap.size 103 3 t l.steps.length (l.steps.flatMap tri)

set_option maxRecDepth 100000 in
set_option maxHeartbeats 16000000 in
theorem labelled_any (p : Nat) (A : Option Addr) (bs : List Int) (c K : Nat) (w : World) (h : Cur w p A bs c K) (hK : K ≤ 10000000000000) :
    Calls Tryz.prog 82 #[.pointer (some ⟨p, 0, none⟩)] w fun e w' => ∃ u t, e = .returned (.agg #[u, t]) ∧ DLab w w' u t ∧ Cur w' p A bs c (K + 1000) ∧ Kept (fun q => q = p) w w' := by
  have hpw := h.lt
  obtain ⟨W0, hW0⟩ : ∃ W0, W0 = ((w.alloc (.cells #[.slice none 0 0, .slice none 0 0] 27)).alloc (.cells #[] 103)).alloc (.cells #[.slice none 0 0, .slice (some ⟨w.heap.size + 1, 0, none⟩) 0 0] 27) := ⟨_, rfl⟩
  have hb0 : Below w.heap.size w W0 := by rw [hW0]; exact (((Below.refl _ _).alloc (Nat.le_refl _) _).alloc (by simp) _).alloc (by simp; omega) _
  have hs0 : W0.heap.size = w.heap.size + 1 + 1 + 1 := by rw [hW0]; simp
  have bx0 : W0.heap[w.heap.size]? = some (.cells #[.slice none 0 0, .slice none 0 0] 27) := by
    rw [hW0]
    exact (heap_alloc_old _ _ (by simp; omega)).trans ((heap_alloc_old _ _ (by simp)).trans (heap_alloc_new _ _))
  have HL0 := Lib.hid (show LD W0 p (w.heap.size + 1) (w.heap.size + 1 + 1) A bs c K (.slice none 0 0) (.slice (some ⟨w.heap.size + 1, 0, none⟩) 0 0) ⟨[], []⟩ W0 from
    { k := Kept.refl _ _, cur := h.below hb0, box := by
        rw [hW0]
        have h := heap_alloc_new ((w.alloc (.cells #[.slice none 0 0, .slice none 0 0] 27)).alloc (.cells #[] 103)) (.cells #[.slice none 0 0, .slice (some ⟨w.heap.size + 1, 0, none⟩) 0 0] 27)
        rw [World.size_alloc, World.size_alloc] at h
        exact h, T := ⟨[], World.ownsRow_nil _ _ _ _, fun i v xs h => by simp at h, fun i j v v' b _ h => by simp at h⟩, S := by
        rw [hW0]
        have h := World.ownsRow_made (e := 103) (size := 3) (w.alloc (.cells #[.slice none 0 0, .slice none 0 0] 27)) #[] 0 (Nat.le_refl _) (Nat.zero_le _) rfl
        rw [World.size_alloc] at h
        exact h.alloc _ })
  have HB0 := Lib.hid hb0
  have HR0 := Lib.hid (show ∀ W, Kept (fun q => q = p ∨ w.heap.size + 1 ≤ q) W0 W → W.heap[w.heap.size]? = some (.cells #[.slice none 0 0, .slice none 0 0] 27) from fun W hW => (hW.block _ (by omega) (by omega)).trans bx0)
  have hpB : p < w.heap.size + 1 := by omega
  have HW0 := Lib.hid hW0
  clear h hb0 bx0 hW0
  go_enter Tryz.func82, Tryz.ntmps82
  have HAM := Lib.hid (fun W1 K1 (hC : Cur W1 p A bs c K1) (hK1 : K1 ≤ 100000000000000) (lit : List Int) (b d : Nat) (h1 : 1 ≤ lit.length) (h2 : lit.length ≤ 1000) (hB : W1.heap[b]? = some (.cells (ints lit).toArray 3)) (hbp : b ≠ p) => among_any p A bs c K1 (some ⟨b, 0, none⟩) d lit W1 hC hK1 h1 (by omega) (cells_of_heap hB) (fun b' o' e => by cases e; exact hbp))
  have h7 := HAM.out (W0.alloc (.cells (ints [1, 2, 3, 4, 5, 6, 8]).toArray 3)) K (HL0.out.cur.below ((Below.refl _ _).alloc (Nat.le_refl _) _)) (by omega) [1, 2, 3, 4, 5, 6, 8] W0.heap.size 7 (by simp) (by simp) (heap_alloc_new _ _) (by omega)
  rw [hs0] at h7
  have HA7 := Lib.hid (show Calls Tryz.prog 104 #[.pointer (some ⟨p, 0, none⟩), .slice (some ⟨w.heap.size + 1 + 1 + 1, 0, none⟩) 7 7] (W0.alloc (.cells #[.int .i64 1, .int .i64 2, .int .i64 3, .int .i64 4, .int .i64 5, .int .i64 6, .int .i64 8] 3)) _ from h7)
  have HB7 := Lib.hid ((Below.refl W0.heap.size W0).alloc (Nat.le_refl _) (.cells #[.int .i64 1, .int .i64 2, .int .i64 3, .int .i64 4, .int .i64 5, .int .i64 6, .int .i64 8] 3))
  clear h7
  go_wp2_with fail
  rw [← HW0.out]
  (with_reducible refine HA7.out.mono ?_)
  rintro e w1 ⟨x, rfl, hx, hC1, hK1⟩
  obtain ⟨n, rfl, hn1, hn8⟩ : ∃ n : Nat, x = (n : Int) ∧ 1 ≤ n ∧ n ≤ 8 := by
    simp only [List.mem_cons, List.not_mem_nil, or_false] at hx
    rcases hx with rfl | rfl | rfl | rfl | rfl | rfl | rfl
    · exact ⟨1, rfl, by omega, by omega⟩
    · exact ⟨2, rfl, by omega, by omega⟩
    · exact ⟨3, rfl, by omega, by omega⟩
    · exact ⟨4, rfl, by omega, by omega⟩
    · exact ⟨5, rfl, by omega, by omega⟩
    · exact ⟨6, rfl, by omega, by omega⟩
    · exact ⟨8, rfl, by omega, by omega⟩
  have HL1 := Lib.hid ((HL0.out.lay HB7.out).draw hpB (Nat.le_succ _) hK1 hC1)
  clear hx hC1 hK1
  go_wp2_with fail
  go_loopw [5] (fun i wr => ∃ (k : Nat) (u : Value) (rows : List (List Int)), k ≤ n ∧ i = .int .i64 k ∧ LD W0 p (w.heap.size + 1) (w.heap.size + 1 + 1) A bs c (K + 2 + 4 * k) u (.slice (some ⟨w.heap.size + 1, 0, none⟩) 0 0) ⟨rows, []⟩ wr ∧ rows.length = k ∧ ∀ xs ∈ rows, xs.length ≤ 2)
    (fun i _ => n - (intOf i).toNat)
  case atStart => exact ⟨0, _, [], Nat.zero_le _, rfl, HL1.out, rfl, fun xs h => by simp at h⟩
  case round =>
    clear HL1 HA7 HB7
    obtain ⟨k, u, rows, hk, rfl, hL, hrl, hr2⟩ := hrel
    have HLD := Lib.hid hL
    have hsz := hL.size
    have hbox := hL.box
    by_cases hlt : k < n
    · have HRW := Lib.hid (made_row wr 3)
      have HB1 := Lib.hid ((Below.refl wr.heap.size wr).alloc (Nat.le_refl _) (.cells #[] 3))
      have HCW := Lib.hid hL.cur
      clear hL hbox
      obtain ⟨wa, hwa⟩ : ∃ wa, wa = wr := ⟨_, rfl⟩
      rw [← hwa] at HLD HRW HB1 HCW hsz
      have HWA := Lib.hid hwa
      go_wp2_with fail
      rw [← hwa]
      clear hwa
      go_loopw [6, 7] (fun rv q wr => ∃ (j : Nat) (xs : List Int), j ≤ 2 ∧ q = .int .i64 j ∧ xs.length ≤ j ∧ wr.ownsRow wa.heap.size 3 1 rv xs.length (ints xs) ∧ Kept (fun q => q = p ∨ wa.heap.size ≤ q) wa wr ∧ Cur wr p A bs c (K + 2 + 4 * k + 2 * j))
        (fun _ q _ => 2 - (intOf q).toNat)
      case atStart => exact ⟨0, [], Nat.zero_le _, rfl, Nat.le_refl _, HRW.out, Kept.of_below HB1.out _, HCW.out.below HB1.out⟩
      case round =>
        clear HRW HB1 HCW
        obtain ⟨j, xs, hj, rfl, hxl, hown, hkp, hC⟩ := hrel
        obtain ⟨AO, cO, rfl, hown⟩ := owns_form hown
        have hsr := hkp.size
        have HOW := Lib.hid hown
        have HKP := Lib.hid hkp
        by_cases hj2 : j < 2
        · have HO1 := Lib.hid (one_any p A bs c _ 4 wr hC (by omega) (by omega))
          clear hown hkp hC
          go_wp2_with fail
          (with_reducible refine HO1.out.mono ?_)
          rintro e w2 ⟨b, rfl, hC2, hK2⟩
          have hpl := HLD.out.cur.lt
          have hown2 := owns_kept HOW.out hK2 (fun g hg e => by have := (HOW.out.lt g hg).1; omega)
          have HOW2 := Lib.hid hown2
          have HKP2 := Lib.hid (HKP.out.trans (hK2.mono fun b hb => .inl hb))
          have HC2 := Lib.hid hC2
          have hs2 := hK2.size
          clear hC2 hK2 hown2
          cases b
          · go_wp2_with fail
            go_roundw
            case rel => exact ⟨j + 1, xs, by omega, by go_num, by omega, HOW2.out, HKP2.out, HC2.out.mono (by omega)⟩
            case measure => simp [intOf]; omega
          · go_wp2_with (at_builtin; refine wpList_app el_int rfl _ _ rfl wa.heap.size _ _ _ rfl HOW2.out [.int .i64 (j : Int)] rfl rfl rfl (one1 rfl) (by omega) (by omega) ?_; intro v3 w3 ho3 hk3 hm3)
            have HO3 := Lib.hid (show w3.ownsRow wa.heap.size 3 1 v3 (xs ++ [(j : Int)]).length (ints (xs ++ [(j : Int)])) from by
              rw [List.length_append, show ints (xs ++ [(j : Int)]) = ints xs ++ [.int .i64 (j : Int)] by simp [ints]]
              exact ho3)
            have HK3 := Lib.hid (HKP2.out.trans (hk3.mono fun b hb => .inr (HOW2.out.lt b hb).1))
            have HC3 := Lib.hid (HC2.out.kept hk3 (fun q hq => by have := (HOW2.out.lt q hq).1; omega))
            clear ho3 hk3 hm3
            go_wp2_with fail
            go_roundw
            case rel => exact ⟨j + 1, xs ++ [(j : Int)], by omega, by go_num, by rw [List.length_append]; simp; omega, HO3.out, HK3.out, HC3.out.mono (by omega)⟩
            case measure => simp [intOf]; omega
        · obtain rfl : j = 2 := by omega
          have hl2 := HLD.out.newer hpB (Nat.le_succ _) hkp hC (by omega)
          have HL2 := Lib.hid hl2
          have hpl := HLD.out.cur.lt
          obtain ⟨vs, a1, a2, a3, a4⟩ := (HLD.out.T.tb).kept hkp (fun q hq => by
            rcases hq with hq | hq
            · exact .inl (by omega)
            · refine .inr ⟨hq, fun g hg e => ?_⟩
              obtain ⟨vs, a, _⟩ := HLD.out.T
              have := (a.lt g hg).2
              omega)
          have a1 : wr.ownsRow (w.heap.size + 1) 30 1 u k vs := by rw [← hrl]; exact a1
          obtain ⟨AU, cU, rfl, a1⟩ := owns_form a1
          have hbx := hl2.box
          have s0 := cell_of_row wr _ 0 _ _ _ hbx
          have HA1 := Lib.hid a1
          have HA2 := Lib.hid a2
          have HA3 := Lib.hid a3
          have HA4 := Lib.hid a4
          clear hown hkp hC a1 a2 a3 a4 hl2 hbx
          go_wp2_with (at_builtin; refine wpList_app el_ints rfl _ _ rfl (w.heap.size + 1) _ _ _ rfl HA1.out [.slice AO xs.length cO] rfl rfl rfl (one1 rfl) (by omega) (by omega) ?_; intro v3 w3 ho3 hk3 hm3; obtain ⟨A3, c3, rfl, _⟩ := owns_form ho3; obtain ⟨g1, g2, g3, g4⟩ := HL2.out.grownU hpB HA1.out hk3; have s1 := cell_of_row w3 _ 0 _ _ _ g3; have s2 := frozen_of_row w3 _ 0 _ _ g3; clear s0)
          have hT3 := TRows.pushK (rows := rows) (x := xs) (by rw [hrl]; exact HA1.out) HA2.out HA3.out HA4.out HOW.out (by omega) (by rw [hrl]; exact ho3) hk3
          have hL3 := LD.shows' g1 g2 g3 g4 hpB (Nat.le_succ _) hT3
          have HL3 := Lib.hid hL3
          clear ho3 hk3 hm3 g1 g2 g3 g4 hT3 hL3
          go_roundw
          case rel => exact ⟨k + 1, _, rows ++ [xs], by omega, by go_num, HL3.out.mono (by omega), by rw [List.length_append, hrl]; rfl, fun y hy => by
            rcases List.mem_append.1 hy with hy | hy
            · exact hr2 y hy
            · simp at hy; rw [hy]; omega⟩
          case measure => simp [intOf]; omega
    · obtain rfl : k = n := by omega
      have HPI := Lib.hid (fun m K1 W (hm : m ≤ 1000) (hC : Cur W p A bs c K1) (hK1 : K1 ≤ 20000000000000) => pick_any p A bs c K1 (m : Int) W hC (by omega) (by omega))
      have HP1 := Lib.hid (HPI.out (2 * k + 1) _ wr (by omega) hL.cur (by omega))
      clear hL hbox
      go_wp2_with fail
      (with_reducible refine HP1.out.mono ?_)
      rintro e w2 ⟨x, rfl, hx0, hx1, hC2, hK2⟩
      obtain ⟨m0, rfl⟩ := Int.eq_ofNat_of_zero_le hx0
      have hm0 : m0 ≤ 17 := by have := hx1 (by omega); omega
      have HL2 := Lib.hid ((HLD.out.draw hpB (Nat.le_succ _) hK2 hC2).mono (K' := K + 40 + 6 * (17 - m0)) (by omega))
      have hs2 := HL2.out.size
      clear hC2 hK2 hx1 HLD
      go_wp2_with fail
      go_loopw [8] (fun i wr => ∃ (m : Nat) (t : Value) (ss : List I3), m ≤ 17 ∧ i = .int .i64 m ∧ LD W0 p (w.heap.size + 1) (w.heap.size + 1 + 1) A bs c (K + 40 + 6 * (17 - m)) u t ⟨rows, ss⟩ wr ∧ ss.length + m ≤ 17 ∧ ∃ g ct, t = .slice (some ⟨g, 0, none⟩) ss.length ct ∧ ss.length ≤ ct)
        (fun i _ => (intOf i).toNat)
      case atStart => exact ⟨m0, _, [], hm0, rfl, HL2.out, by simpa using hm0, _, _, rfl, Nat.le_refl _⟩
      case round =>
        clear HL2
        obtain ⟨m, t, ss, hm, rfl, hL, hss, gt, ct, rfl, hct⟩ := hrel
        have HLD := Lib.hid hL
        have hsr := hL.size
        cases m with
        | zero =>
          have HLE := Lib.hid (hL.mono (K' := K + 200) (by omega))
          have HO1 := Lib.hid (one_any p A bs c (K + 200) 2 wr HLE.out.cur (by omega) (by omega))
          have hss' : ss.length ≤ 17 := by omega
          clear hL
          go_upto_region 17 with fail
          go_cut [64] from 44 (fun s wx => (∃ b, s = .bool b ∧ (b = true → k < 7)) ∧ LD W0 p (w.heap.size + 1) (w.heap.size + 1 + 1) A bs c (K + 202) u (.slice (some ⟨gt, 0, none⟩) ss.length ct) ⟨rows, ss⟩ wx)
          case first =>
            go_wp2_with fail
            (with_reducible refine HO1.out.mono ?_)
            rintro e w3 ⟨b, rfl, hC3, hK3⟩
            have HL3 := Lib.hid (HLE.out.draw hpB (Nat.le_succ _) hK3 hC3)
            clear hC3 hK3
            cases b
            · go_wp2_with fail
              go_meet
              case rel => exact ⟨⟨false, rfl, fun h => nomatch h⟩, HL3.out⟩
            · by_cases h7 : k < 7
              · have h7' : (k : Int) < 7 := by omega
                go_wp2_with fail
                go_meet
                case rel => exact ⟨⟨_, rfl, fun _ => h7⟩, HL3.out⟩
              · have h7' : ¬ (k : Int) < 7 := by omega
                go_wp2_with fail
                go_meet
                case rel => exact ⟨⟨_, rfl, fun h => by simp at h; omega⟩, HL3.out⟩
          case rest =>
            obtain ⟨⟨b, rfl, hb7⟩, hL⟩ := hcut
            go_upto_if 64 with fail
            go_cut [] from 44 (fun wx => ∃ (u t : Value) (l : Lab), LD W0 p (w.heap.size + 1) (w.heap.size + 1 + 1) A bs c (K + 240) u t l wx ∧ 1 ≤ l.shows.length ∧ l.shows.length ≤ 12 ∧ (∀ xs ∈ l.shows, xs.length ≤ 2) ∧ l.steps.length ≤ 40)
            case first =>
              cases b
              · go_wp2_with fail
                go_meet
                case rel => exact ⟨u, _, ⟨rows, ss⟩, hL.mono (by omega), by rw [hrl]; exact hn1, by rw [hrl]; omega, hr2, Nat.le_trans hss' (by decide)⟩
              · have hk7 := hb7 rfl
                have hsm : SmallLab ⟨rows, ss⟩ := ⟨Nat.le_trans (Nat.le_of_eq hrl) (by omega), Nat.le_trans hss' (by decide), fun xs hx => Nat.le_trans (hr2 xs hx) (by decide)⟩
                obtain ⟨AU, cU, rfl⟩ := hL.formU
                have hrb := hL.rlab hsm
                have hun := l11UnionT_any _ _ ⟨rows, ss⟩ ⟨rows, ss⟩ wc hsm hsm (by rw [hrl]; exact hn1) (by rw [hrl]; exact hn1) (by rw [hrl]; omega) hrb hrb
                simp only [hrl] at hun
                have HUN := Lib.hid hun
                clear hun
                have HLC := Lib.hid hL
                have hsc := hL.size
                have s0 := cell_of_row wc _ 0 _ _ _ hL.box
                have s1 := cell_of_row wc _ 1 _ _ _ hL.box
                clear hL hrb hb7
                go_wp2_with fail
                (with_reducible refine HUN.out.mono ?_)
                rintro e w4 ⟨u', t', rfl, hT4, hS4, hB4⟩
                obtain ⟨lu, hlu⟩ : ∃ lu, lu = uniL ⟨rows, ss⟩ ⟨rows, ss⟩ := ⟨_, rfl⟩
                rw [← hlu] at hT4 hS4
                have hus : lu.shows.length = 2 * k := by rw [hlu]; simp [uniL]; omega
                have hut : lu.steps.length = 2 * ss.length := by rw [hlu]; simp [uniL]; omega
                have hur : ∀ xs ∈ lu.shows, xs.length ≤ 2 := by
                  rw [hlu]
                  intro xs hx
                  rcases List.mem_append.1 hx with hx | hx <;> exact hr2 xs hx
                have hL4 := HLC.out.lay hB4
                have s0 := cell_of_row w4 _ 0 _ _ _ hL4.box
                have s1 := cell_of_row w4 _ 1 _ _ _ hL4.box
                have f0 := frozen_of_row w4 _ 0 _ _ hL4.box
                have f1 := frozen_of_row w4 _ 1 _ _ hL4.box
                have hL5 := hL4.both hpB (Nat.le_succ _) (TRows.low hT4 (by omega)) (owns_mono hS4 (by omega))
                obtain ⟨AU', cU', rfl⟩ := hL5.formU
                obtain ⟨AT', cT', rfl⟩ := hL5.formT
                have HUS := Lib.hid hus
                have HUT := Lib.hid hut
                clear hus hut
                have HL5 := Lib.hid (show LD W0 p (w.heap.size + 1) (w.heap.size + 1 + 1) A bs c (K + 202) _ _ lu _ from hL5)
                clear hT4 hS4 hB4 hL4 hL5 hlu HUN HLC
                go_wp2_with fail
                have HO2 := Lib.hid (one_any p A bs c (K + 202) 2 _ HL5.out.cur (by omega) (by omega))
                (with_reducible refine HO2.out.mono ?_)
                rintro e w5 ⟨b2, rfl, hC5, hK5⟩
                have HLD := Lib.hid ((HL5.out.draw hpB (Nat.le_succ _) hK5 hC5).mono (K' := K + 204) (by omega))
                have hs5 := HLD.out.size
                clear hC5 hK5 HL5 HO2
                cases b2
                · go_wp2_with fail
                  go_meet
                  case rel => exact ⟨_, _, lu, HLD.out.mono (by omega), by rw [HUS.out]; omega, by rw [HUS.out]; omega, hur, by rw [HUT.out]; omega⟩
                · have HPD := Lib.hid (fun K1 W (hC : Cur W p A bs c K1) (hK1 : K1 ≤ 20000000000000) => HPI.out (2 * (k : Int)) K1 W (by omega) hC hK1)
                  have HP2 := Lib.hid (fun K1 W (hC : Cur W p A bs c K1) (hK1 : K1 ≤ 20000000000000) => HPI.out 2 K1 W (by omega) hC hK1)
                  go_wp2_with fail
                  refine wp_region_inv (by kernel_rfl) (fun L act W => ∃ (x4 x6 x9 : Int) (v : Value), act = ⟨#[Value.pointer (some ⟨p, 0, none⟩), undef, Value.pointer (some ⟨w.heap.size, 0, none⟩), Value.pointer (some ⟨w.heap.size + 1 + 1, 0, none⟩), Value.int IntKind.i64 (k : Int), Value.int IntKind.i64 (k : Int), u6, u7, Value.int IntKind.i64 0, undef, Value.slice (some ⟨w.heap.size + 1, 0, none⟩) 0 0, Value.agg #[Value.slice none 0 0, Value.slice (some ⟨w.heap.size + 1, 0, none⟩) 0 0], Value.pointer (some ⟨p, 0, none⟩), Value.slice (some ⟨w.heap.size + 1 + 1 + 1, 0, none⟩) 7 7, Value.int IntKind.i64 (k : Int), Value.int IntKind.i64 (k : Int), Value.int IntKind.i64 (k : Int), Value.bool false, u18, u19, u20, u21, u22, u23, u24, u25, u26, u27, u28, u29, u30, u31, u32, u33, u34, u35, u36, Value.pointer (some ⟨p, 0, none⟩), Value.int IntKind.i64 (k : Int), Value.int IntKind.i64 (2 * (k : Int)), Value.int IntKind.i64 (2 * (k : Int) + 1), Value.int IntKind.i64 (m0 : Int), Value.int IntKind.i64 0, Value.bool false, u44, u45, u46, u47, u48, u49, u50, u51, u52, u53, u54, u55, u56, u57, u58, u59, u60, u61, u62, u63, Value.bool true, Value.agg #[Value.slice AU k cU, Value.slice (some ⟨gt, 0, none⟩) ss.length ct], Value.agg #[Value.slice AU k cU, Value.slice (some ⟨gt, 0, none⟩) ss.length ct], Value.agg #[Value.slice AU' lu.shows.length cU', Value.slice AT' lu.steps.length cT'], Value.pointer (some ⟨p, 0, none⟩), Value.bool true, bsel (L 0) (.pointer (some ⟨w.heap.size + 1 + 1, 1, none⟩)) (u70), bsel (L 1) (.slice AT' lu.steps.length cT') (u71), bsel (L 2) (.pointer (some ⟨p, 0, none⟩)) (u72), bsel (L 3) (.int .i64 (k : Int)) (u73), bsel (L 4) (.int .i64 (2 * (k : Int))) (u74), bsel (L 5) (.int .i64 x4) (u75), bsel (L 6) (.pointer (some ⟨p, 0, none⟩)) (u76), bsel (L 7) (.int .i64 x6) (u77), bsel (L 8) (.pointer (some ⟨p, 0, none⟩)) (u78), bsel (L 9) (.int .i64 (k : Int)) (u79), bsel (L 10) (.int .i64 (2 * (k : Int))) (u80), bsel (L 11) (.int .i64 x9) (u81), bsel (L 12) (.agg #[.int .i64 x4, .int .i64 x6, .int .i64 x9]) (u82), bsel (L 13) (v) (u83), bsel (L 14) (.pointer (some ⟨w.heap.size + 1 + 1, 1, none⟩)) (u84), u85, u86, u87, u88, u89, u90, u91, u92, u93, u94, u95, u96, u97, u98, u99, u100, u101, u102, u103, u104, u105, u106, u107, u108, u109, u110, u111, u112, u113, u114, u115, u116, u117, u118, u119, u120, u121, u122, u123, u124, u125, u126, u127, u128, u129, u130, u131, u132, u133, u134, u135, u136, u137, u138, u139, u140, u141, u142, u143, u144], []⟩ ∧ (L 13 = true → L 1 = true) ∧ (L 13 = true → L 12 = true) ∧ (L 12 = true → L 5 = true) ∧ (L 12 = true → L 7 = true) ∧ (L 12 = true → L 11 = true) ∧ DS W0 p (w.heap.size + 1) (w.heap.size + 1 + 1) A bs c (K + 204) (.slice AU' lu.shows.length cU') (.slice AT' lu.steps.length cT') lu (x4, x6, x9) (L 5) (L 7) (L 11) (L 13) (L 15) v W) ?h0 ?step ?fin
                  case h0 => exact ⟨0, 0, 0, .bool false, rfl, fun h => absurd h Bool.false_ne_true, fun h => absurd h Bool.false_ne_true, fun h => absurd h Bool.false_ne_true, fun h => absurd h Bool.false_ne_true, fun h => absurd h Bool.false_ne_true, DS.start HLD.out _ _⟩
                  case step =>
                    intro L act W q oo hJ hL ho hd K3 hK3
                    obtain ⟨x4, x6, x9, v, rfl, hI0, hI1, hI2, hI3, hI4, hF⟩ := hJ
                    match q, ho with
                    | 0, ho =>
                      simp only [List.getElem?_toArray, List.getElem?_cons_zero, List.getElem?_cons_succ, Option.some.injEq] at ho
                      subst ho
                      simp [Region.binds] at hd
                      try simp only [hd, bsel_t]
                      have HF := Lib.hid hF
                      clear hF
                      have HQI0 := Lib.hid hI0
                      clear hI0
                      have HQI1 := Lib.hid hI1
                      clear hI1
                      have HQI2 := Lib.hid hI2
                      clear hI2
                      have HQI3 := Lib.hid hI3
                      clear hI3
                      have HQI4 := Lib.hid hI4
                      clear hI4
                      go_simp
                      exact hK3 _ _ ⟨x4, x6, x9, v, by first | (simp [upd, bsel]; done) | simp [upd, bsel, hd], by simpa [upd] using HQI0.out, by simpa [upd] using HQI1.out, by simpa [upd] using HQI2.out, by simpa [upd] using HQI3.out, by simpa [upd] using HQI4.out, HF.out⟩
                    | 1, ho =>
                      simp only [List.getElem?_toArray, List.getElem?_cons_zero, List.getElem?_cons_succ, Option.some.injEq] at ho
                      subst ho
                      simp [Region.binds] at hd
                      have hz0 : L 13 = false := by
                        cases e : L 13
                        · rfl
                        · exact absurd (hI0 e) (by simp [hL])
                      have s0 := cell_of_row W _ 1 _ _ _ (hF.d hz0).box
                      try simp only [hd, bsel_t]
                      have HF := Lib.hid hF
                      clear hF
                      have HQI0 := Lib.hid hI0
                      clear hI0
                      have HQI1 := Lib.hid hI1
                      clear hI1
                      have HQI2 := Lib.hid hI2
                      clear hI2
                      have HQI3 := Lib.hid hI3
                      clear hI3
                      have HQI4 := Lib.hid hI4
                      clear hI4
                      go_simp
                      exact hK3 _ _ ⟨x4, x6, x9, v, by simp [upd, bsel, hd, hz0], by simp [upd], by simpa [upd] using HQI1.out, by simpa [upd] using HQI2.out, by simpa [upd] using HQI3.out, by simpa [upd] using HQI4.out, HF.out⟩
                    | 2, ho =>
                      simp only [List.getElem?_toArray, List.getElem?_cons_zero, List.getElem?_cons_succ, Option.some.injEq] at ho
                      subst ho
                      simp [Region.binds] at hd
                      try simp only [hd, bsel_t]
                      have HF := Lib.hid hF
                      clear hF
                      have HQI0 := Lib.hid hI0
                      clear hI0
                      have HQI1 := Lib.hid hI1
                      clear hI1
                      have HQI2 := Lib.hid hI2
                      clear hI2
                      have HQI3 := Lib.hid hI3
                      clear hI3
                      have HQI4 := Lib.hid hI4
                      clear hI4
                      go_simp
                      exact hK3 _ _ ⟨x4, x6, x9, v, by first | (simp [upd, bsel]; done) | simp [upd, bsel, hd], by simpa [upd] using HQI0.out, by simpa [upd] using HQI1.out, by simpa [upd] using HQI2.out, by simpa [upd] using HQI3.out, by simpa [upd] using HQI4.out, HF.out⟩
                    | 3, ho =>
                      simp only [List.getElem?_toArray, List.getElem?_cons_zero, List.getElem?_cons_succ, Option.some.injEq] at ho
                      subst ho
                      simp [Region.binds] at hd
                      try simp only [hd, bsel_t]
                      have HF := Lib.hid hF
                      clear hF
                      have HQI0 := Lib.hid hI0
                      clear hI0
                      have HQI1 := Lib.hid hI1
                      clear hI1
                      have HQI2 := Lib.hid hI2
                      clear hI2
                      have HQI3 := Lib.hid hI3
                      clear hI3
                      have HQI4 := Lib.hid hI4
                      clear hI4
                      go_simp
                      exact hK3 _ _ ⟨x4, x6, x9, v, by first | (simp [upd, bsel]; done) | simp [upd, bsel, hd], by simpa [upd] using HQI0.out, by simpa [upd] using HQI1.out, by simpa [upd] using HQI2.out, by simpa [upd] using HQI3.out, by simpa [upd] using HQI4.out, HF.out⟩
                    | 4, ho =>
                      simp only [List.getElem?_toArray, List.getElem?_cons_zero, List.getElem?_cons_succ, Option.some.injEq] at ho
                      subst ho
                      simp [Region.binds] at hd
                      have e1 : IntKind.i64.wrap (2 * (k : Int)) = 2 * (k : Int) := IntWalk.i64_in _ (by omega)
                      try simp only [hd, bsel_t]
                      have HF := Lib.hid hF
                      clear hF
                      have HQI0 := Lib.hid hI0
                      clear hI0
                      have HQI1 := Lib.hid hI1
                      clear hI1
                      have HQI2 := Lib.hid hI2
                      clear hI2
                      have HQI3 := Lib.hid hI3
                      clear hI3
                      have HQI4 := Lib.hid hI4
                      clear hI4
                      go_simp
                      exact hK3 _ _ ⟨x4, x6, x9, v, by simp [upd, bsel, hd], by simpa [upd] using HQI0.out, by simpa [upd] using HQI1.out, by simpa [upd] using HQI2.out, by simpa [upd] using HQI3.out, by simpa [upd] using HQI4.out, HF.out⟩
                    | 5, ho =>
                      simp only [List.getElem?_toArray, List.getElem?_cons_zero, List.getElem?_cons_succ, Option.some.injEq] at ho
                      subst ho
                      simp [Region.binds] at hd
                      have hz2 : L 12 = false := by
                        cases e : L 12
                        · rfl
                        · exact absurd (hI2 e) (by simp [hL])
                      have E11 := Lib.hid (show L 13 = false from Bool.eq_false_iff.2 fun e => absurd (hI1 e) (by simp [hz2]))
                      rw [hL] at hF
                      simp only [hd, bsel_t]
                      have HF := Lib.hid hF
                      clear hF
                      have HQI0 := Lib.hid hI0
                      clear hI0
                      have HQI1 := Lib.hid hI1
                      clear hI1
                      have HQI2 := Lib.hid hI2
                      clear hI2
                      have HQI3 := Lib.hid hI3
                      clear hI3
                      have HQI4 := Lib.hid hI4
                      clear hI4
                      go_simp
                      go_at_call 102
                      (with_reducible refine (HPD.out _ W (HF.out.d E11.out).cur (by have a1 := Bool.toNat_le (L 7); have a2 := Bool.toNat_le (L 11); have a3 := Bool.toNat_le false; omega)).mono ?_)
                      rintro e W' ⟨x', rfl, -, -, hC', hk'⟩
                      have HF := Lib.hid (HF.out.draw4 (y' := (x', x6, x9)) E11.out hpB (Nat.le_succ _) hk' (by simpa using hC'))
                      clear hC' hk'
                      go_simp
                      exact hK3 _ _ ⟨x', x6, x9, v, by simp [upd, bsel, hd, hz2], by simpa [upd] using HQI0.out, by simpa [upd] using HQI1.out, by simp [upd], by simpa [upd] using HQI3.out, by simpa [upd] using HQI4.out, by simpa [upd, hd] using HF.out⟩
                    | 6, ho =>
                      simp only [List.getElem?_toArray, List.getElem?_cons_zero, List.getElem?_cons_succ, Option.some.injEq] at ho
                      subst ho
                      simp [Region.binds] at hd
                      try simp only [hd, bsel_t]
                      have HF := Lib.hid hF
                      clear hF
                      have HQI0 := Lib.hid hI0
                      clear hI0
                      have HQI1 := Lib.hid hI1
                      clear hI1
                      have HQI2 := Lib.hid hI2
                      clear hI2
                      have HQI3 := Lib.hid hI3
                      clear hI3
                      have HQI4 := Lib.hid hI4
                      clear hI4
                      go_simp
                      exact hK3 _ _ ⟨x4, x6, x9, v, by first | (simp [upd, bsel]; done) | simp [upd, bsel, hd], by simpa [upd] using HQI0.out, by simpa [upd] using HQI1.out, by simpa [upd] using HQI2.out, by simpa [upd] using HQI3.out, by simpa [upd] using HQI4.out, HF.out⟩
                    | 7, ho =>
                      simp only [List.getElem?_toArray, List.getElem?_cons_zero, List.getElem?_cons_succ, Option.some.injEq] at ho
                      subst ho
                      simp [Region.binds] at hd
                      have hz3 : L 12 = false := by
                        cases e : L 12
                        · rfl
                        · exact absurd (hI3 e) (by simp [hL])
                      have E11 := Lib.hid (show L 13 = false from Bool.eq_false_iff.2 fun e => absurd (hI1 e) (by simp [hz3]))
                      rw [hL] at hF
                      simp only [hd, bsel_t]
                      have HF := Lib.hid hF
                      clear hF
                      have HQI0 := Lib.hid hI0
                      clear hI0
                      have HQI1 := Lib.hid hI1
                      clear hI1
                      have HQI2 := Lib.hid hI2
                      clear hI2
                      have HQI3 := Lib.hid hI3
                      clear hI3
                      have HQI4 := Lib.hid hI4
                      clear hI4
                      go_simp
                      go_at_call 102
                      (with_reducible refine (HP2.out _ W (HF.out.d E11.out).cur (by have a1 := Bool.toNat_le (L 5); have a2 := Bool.toNat_le (L 11); have a3 := Bool.toNat_le false; omega)).mono ?_)
                      rintro e W' ⟨x', rfl, -, -, hC', hk'⟩
                      have HF := Lib.hid (HF.out.draw6 (y' := (x4, x', x9)) E11.out hpB (Nat.le_succ _) hk' (by simpa using hC'))
                      clear hC' hk'
                      go_simp
                      exact hK3 _ _ ⟨x4, x', x9, v, by simp [upd, bsel, hd, hz3], by simpa [upd] using HQI0.out, by simpa [upd] using HQI1.out, by simpa [upd] using HQI2.out, by simp [upd], by simpa [upd] using HQI4.out, by simpa [upd, hd] using HF.out⟩
                    | 8, ho =>
                      simp only [List.getElem?_toArray, List.getElem?_cons_zero, List.getElem?_cons_succ, Option.some.injEq] at ho
                      subst ho
                      simp [Region.binds] at hd
                      try simp only [hd, bsel_t]
                      have HF := Lib.hid hF
                      clear hF
                      have HQI0 := Lib.hid hI0
                      clear hI0
                      have HQI1 := Lib.hid hI1
                      clear hI1
                      have HQI2 := Lib.hid hI2
                      clear hI2
                      have HQI3 := Lib.hid hI3
                      clear hI3
                      have HQI4 := Lib.hid hI4
                      clear hI4
                      go_simp
                      exact hK3 _ _ ⟨x4, x6, x9, v, by first | (simp [upd, bsel]; done) | simp [upd, bsel, hd], by simpa [upd] using HQI0.out, by simpa [upd] using HQI1.out, by simpa [upd] using HQI2.out, by simpa [upd] using HQI3.out, by simpa [upd] using HQI4.out, HF.out⟩
                    | 9, ho =>
                      simp only [List.getElem?_toArray, List.getElem?_cons_zero, List.getElem?_cons_succ, Option.some.injEq] at ho
                      subst ho
                      simp [Region.binds] at hd
                      try simp only [hd, bsel_t]
                      have HF := Lib.hid hF
                      clear hF
                      have HQI0 := Lib.hid hI0
                      clear hI0
                      have HQI1 := Lib.hid hI1
                      clear hI1
                      have HQI2 := Lib.hid hI2
                      clear hI2
                      have HQI3 := Lib.hid hI3
                      clear hI3
                      have HQI4 := Lib.hid hI4
                      clear hI4
                      go_simp
                      exact hK3 _ _ ⟨x4, x6, x9, v, by first | (simp [upd, bsel]; done) | simp [upd, bsel, hd], by simpa [upd] using HQI0.out, by simpa [upd] using HQI1.out, by simpa [upd] using HQI2.out, by simpa [upd] using HQI3.out, by simpa [upd] using HQI4.out, HF.out⟩
                    | 10, ho =>
                      simp only [List.getElem?_toArray, List.getElem?_cons_zero, List.getElem?_cons_succ, Option.some.injEq] at ho
                      subst ho
                      simp [Region.binds] at hd
                      have e1 : IntKind.i64.wrap (2 * (k : Int)) = 2 * (k : Int) := IntWalk.i64_in _ (by omega)
                      try simp only [hd, bsel_t]
                      have HF := Lib.hid hF
                      clear hF
                      have HQI0 := Lib.hid hI0
                      clear hI0
                      have HQI1 := Lib.hid hI1
                      clear hI1
                      have HQI2 := Lib.hid hI2
                      clear hI2
                      have HQI3 := Lib.hid hI3
                      clear hI3
                      have HQI4 := Lib.hid hI4
                      clear hI4
                      go_simp
                      exact hK3 _ _ ⟨x4, x6, x9, v, by simp [upd, bsel, hd], by simpa [upd] using HQI0.out, by simpa [upd] using HQI1.out, by simpa [upd] using HQI2.out, by simpa [upd] using HQI3.out, by simpa [upd] using HQI4.out, HF.out⟩
                    | 11, ho =>
                      simp only [List.getElem?_toArray, List.getElem?_cons_zero, List.getElem?_cons_succ, Option.some.injEq] at ho
                      subst ho
                      simp [Region.binds] at hd
                      have hz4 : L 12 = false := by
                        cases e : L 12
                        · rfl
                        · exact absurd (hI4 e) (by simp [hL])
                      have E11 := Lib.hid (show L 13 = false from Bool.eq_false_iff.2 fun e => absurd (hI1 e) (by simp [hz4]))
                      rw [hL] at hF
                      simp only [hd, bsel_t]
                      have HF := Lib.hid hF
                      clear hF
                      have HQI0 := Lib.hid hI0
                      clear hI0
                      have HQI1 := Lib.hid hI1
                      clear hI1
                      have HQI2 := Lib.hid hI2
                      clear hI2
                      have HQI3 := Lib.hid hI3
                      clear hI3
                      have HQI4 := Lib.hid hI4
                      clear hI4
                      go_simp
                      go_at_call 102
                      (with_reducible refine (HPD.out _ W (HF.out.d E11.out).cur (by have a1 := Bool.toNat_le (L 5); have a2 := Bool.toNat_le (L 7); have a3 := Bool.toNat_le false; omega)).mono ?_)
                      rintro e W' ⟨x', rfl, -, -, hC', hk'⟩
                      have HF := Lib.hid (HF.out.draw9 (y' := (x4, x6, x')) E11.out hpB (Nat.le_succ _) hk' (by simpa using hC'))
                      clear hC' hk'
                      go_simp
                      exact hK3 _ _ ⟨x4, x6, x', v, by simp [upd, bsel, hd, hz4], by simpa [upd] using HQI0.out, by simpa [upd] using HQI1.out, by simpa [upd] using HQI2.out, by simpa [upd] using HQI3.out, by simp [upd], by simpa [upd, hd] using HF.out⟩
                    | 12, ho =>
                      simp only [List.getElem?_toArray, List.getElem?_cons_zero, List.getElem?_cons_succ, Option.some.injEq] at ho
                      subst ho
                      simp [Region.binds] at hd
                      have hz1 : L 13 = false := by
                        cases e : L 13
                        · rfl
                        · exact absurd (hI1 e) (by simp [hL])
                      try simp only [hd, bsel_t]
                      have HF := Lib.hid hF
                      clear hF
                      have HQI0 := Lib.hid hI0
                      clear hI0
                      have HQI1 := Lib.hid hI1
                      clear hI1
                      have HQI2 := Lib.hid hI2
                      clear hI2
                      have HQI3 := Lib.hid hI3
                      clear hI3
                      have HQI4 := Lib.hid hI4
                      clear hI4
                      go_simp
                      exact hK3 _ _ ⟨x4, x6, x9, v, by simp [upd, bsel, hd, hz1], by simpa [upd] using HQI0.out, by simp [upd], by simp [upd, hd], by simp [upd, hd], by simp [upd, hd], HF.out⟩
                    | 13, ho =>
                      simp only [List.getElem?_toArray, List.getElem?_cons_zero, List.getElem?_cons_succ, Option.some.injEq] at ho
                      subst ho
                      simp [Region.binds] at hd
                      rw [hL] at hF
                      have hS := (hF.d rfl).S
                      have hz := (hF.d rfl).size
                      simp only [hd, bsel_t]
                      have HF := Lib.hid hF
                      clear hF
                      have HQI0 := Lib.hid hI0
                      clear hI0
                      have HQI1 := Lib.hid hI1
                      clear hI1
                      have HQI2 := Lib.hid hI2
                      clear hI2
                      have HQI3 := Lib.hid hI3
                      clear hI3
                      have HQI4 := Lib.hid hI4
                      clear hI4
                      go_simp
                      go_at_call 92
                      (with_reducible refine (l10PutV_any _ _ lu.steps (x4, x6, x9) W (by have := HUT.out; omega) hS (by omega)).mono ?_)
                      rintro e W' ⟨r, rfl, hr, hb⟩
                      have HF := Lib.hid (HF.out.put hb hr)
                      clear hr hb hS
                      go_simp
                      exact hK3 _ _ ⟨x4, x6, x9, r, by simp [upd, bsel, hd], by simp [upd, hd], by simp [upd, hd], by simpa [upd] using HQI2.out, by simpa [upd] using HQI3.out, by simpa [upd] using HQI4.out, by simpa [upd, hd] using HF.out⟩
                    | 14, ho =>
                      simp only [List.getElem?_toArray, List.getElem?_cons_zero, List.getElem?_cons_succ, Option.some.injEq] at ho
                      subst ho
                      simp [Region.binds] at hd
                      try simp only [hd, bsel_t]
                      have HF := Lib.hid hF
                      clear hF
                      have HQI0 := Lib.hid hI0
                      clear hI0
                      have HQI1 := Lib.hid hI1
                      clear hI1
                      have HQI2 := Lib.hid hI2
                      clear hI2
                      have HQI3 := Lib.hid hI3
                      clear hI3
                      have HQI4 := Lib.hid hI4
                      clear hI4
                      go_simp
                      exact hK3 _ _ ⟨x4, x6, x9, v, by first | (simp [upd, bsel]; done) | simp [upd, bsel, hd], by simpa [upd] using HQI0.out, by simpa [upd] using HQI1.out, by simpa [upd] using HQI2.out, by simpa [upd] using HQI3.out, by simpa [upd] using HQI4.out, HF.out⟩
                    | 15, ho =>
                      simp only [List.getElem?_toArray, List.getElem?_cons_zero, List.getElem?_cons_succ, Option.some.injEq] at ho
                      subst ho
                      simp [Region.binds] at hd
                      have d11 : L 13 = true := by simp [hd]
                      rw [d11, hL] at hF
                      obtain ⟨A', c', rfl, _⟩ := owns_form (hF.e rfl rfl).2
                      have s0 := cell_of_row W _ 1 _ _ _ (hF.e rfl rfl).1.box
                      have s1 := frozen_of_row W _ 1 _ _ (hF.e rfl rfl).1.box
                      simp only [hd, bsel_t]
                      have HF := Lib.hid (hF.store hpB (Nat.le_succ _))
                      clear hF
                      have HQI0 := Lib.hid hI0
                      clear hI0
                      have HQI1 := Lib.hid hI1
                      clear hI1
                      have HQI2 := Lib.hid hI2
                      clear hI2
                      have HQI3 := Lib.hid hI3
                      clear hI3
                      have HQI4 := Lib.hid hI4
                      clear hI4
                      go_simp
                      exact hK3 _ _ ⟨x4, x6, x9, .slice A' (putG lu.steps (x4, x6, x9)).length c', by simp [upd, bsel, hd], by simpa [upd] using HQI0.out, by simpa [upd] using HQI1.out, by simpa [upd] using HQI2.out, by simpa [upd] using HQI3.out, by simpa [upd] using HQI4.out, by simpa [upd, hd] using HF.out⟩
                    | q + 16, ho => simp at ho
                  case fin =>
                    intro L act W hJ hfin
                    obtain ⟨x4, x6, x9, v, rfl, hI0, hI1, hI2, hI3, hI4, hF⟩ := hJ
                    have l0 : L 0 = true := by
                      cases e : L 0
                      · have x := hfin 0 _ rfl e
                        simp [Region.binds] at x
                      · rfl
                    have l1 : L 1 = true := by
                      cases e : L 1
                      · have x := hfin 1 _ rfl e
                        simp [Region.binds, l0] at x
                      · rfl
                    have l2 : L 2 = true := by
                      cases e : L 2
                      · have x := hfin 2 _ rfl e
                        simp [Region.binds, l0, l1] at x
                      · rfl
                    have l3 : L 3 = true := by
                      cases e : L 3
                      · have x := hfin 3 _ rfl e
                        simp [Region.binds, l0, l1, l2] at x
                      · rfl
                    have l4 : L 4 = true := by
                      cases e : L 4
                      · have x := hfin 4 _ rfl e
                        simp [Region.binds, l0, l1, l2, l3] at x
                      · rfl
                    have l5 : L 5 = true := by
                      cases e : L 5
                      · have x := hfin 5 _ rfl e
                        simp [Region.binds, l0, l1, l2, l3, l4] at x
                      · rfl
                    have l6 : L 6 = true := by
                      cases e : L 6
                      · have x := hfin 6 _ rfl e
                        simp [Region.binds, l0, l1, l2, l3, l4, l5] at x
                      · rfl
                    have l7 : L 7 = true := by
                      cases e : L 7
                      · have x := hfin 7 _ rfl e
                        simp [Region.binds, l0, l1, l2, l3, l4, l5, l6] at x
                      · rfl
                    have l8 : L 8 = true := by
                      cases e : L 8
                      · have x := hfin 8 _ rfl e
                        simp [Region.binds, l0, l1, l2, l3, l4, l5, l6, l7] at x
                      · rfl
                    have l9 : L 9 = true := by
                      cases e : L 9
                      · have x := hfin 9 _ rfl e
                        simp [Region.binds, l0, l1, l2, l3, l4, l5, l6, l7, l8] at x
                      · rfl
                    have l10 : L 10 = true := by
                      cases e : L 10
                      · have x := hfin 10 _ rfl e
                        simp [Region.binds, l0, l1, l2, l3, l4, l5, l6, l7, l8, l9] at x
                      · rfl
                    have l11 : L 11 = true := by
                      cases e : L 11
                      · have x := hfin 11 _ rfl e
                        simp [Region.binds, l0, l1, l2, l3, l4, l5, l6, l7, l8, l9, l10] at x
                      · rfl
                    have l12 : L 12 = true := by
                      cases e : L 12
                      · have x := hfin 12 _ rfl e
                        simp [Region.binds, l0, l1, l2, l3, l4, l5, l6, l7, l8, l9, l10, l11] at x
                      · rfl
                    have l13 : L 13 = true := by
                      cases e : L 13
                      · have x := hfin 13 _ rfl e
                        simp [Region.binds, l0, l1, l2, l3, l4, l5, l6, l7, l8, l9, l10, l11, l12] at x
                      · rfl
                    have l14 : L 14 = true := by
                      cases e : L 14
                      · have x := hfin 14 _ rfl e
                        simp [Region.binds, l0, l1, l2, l3, l4, l5, l6, l7, l8, l9, l10, l11, l12, l13] at x
                      · rfl
                    have l15 : L 15 = true := by
                      cases e : L 15
                      · have x := hfin 15 _ rfl e
                        simp [Region.binds, l0, l1, l2, l3, l4, l5, l6, l7, l8, l9, l10, l11, l12, l13, l14] at x
                      · rfl
                    simp only [l0, l1, l2, l3, l4, l5, l6, l7, l8, l9, l10, l11, l12, l13, l14, l15, bsel_t]
                    have hf := hF.f l15
                    have hlen := putG_len lu.steps (x4, x6, x9)
                    have HLF := Lib.hid hf
                    have HLN := Lib.hid hlen
                    clear hF hf hlen hfin hI0 hI1 hI2 hI3 hI4 l0 l1 l2 l3 l4 l5 l6 l7 l8 l9 l10 l11 l12 l13 l14 l15
                    go_wp2_with fail
                    go_meet
                    case rel => exact ⟨_, _, ⟨lu.shows, putG lu.steps (x4, x6, x9)⟩, HLF.out.mono (by omega), by show 1 ≤ lu.shows.length; rw [HUS.out]; omega, by show lu.shows.length ≤ 12; rw [HUS.out]; omega, hur, by have h1 := HLN.out; have h2 := HUT.out; show (putG lu.steps (x4, x6, x9)).length ≤ 40; omega⟩
            case rest =>
              obtain ⟨u, t, l, hL, hn1', hn12, hr2', hs40⟩ := hcut
              have HO := Lib.hid (HPI.out 40 _ wc (by omega) hL.cur (by omega))
              have HLE := Lib.hid hL
              clear hL
              go_wp2_with fail
              (with_reducible refine HO.out.mono ?_)
              rintro e w6 ⟨y, rfl, hy0, -, hC6, hK6⟩
              have HLD := Lib.hid ((HLE.out.draw hpB (Nat.le_succ _) hK6 hC6).mono (K' := K + 250) (by omega))
              have hs6 := HLD.out.size
              clear hC6 hK6 HLE HO
              go_upto_block 6 with fail
              go_cut [] from 44 (fun wx => ∃ (u t : Value) (l : Lab), LX W0 p (w.heap.size + 1) (w.heap.size + 1 + 1) A bs c (K + 900) u t l wx)
              case first =>
                obtain ⟨AU, cU, rfl⟩ := HLD.out.formU
                obtain ⟨AT, cT, rfl⟩ := HLD.out.formT
                by_cases y0 : y = 0
                · subst y0
                  obtain ⟨r, rest, hrr⟩ : ∃ r rest, l.shows = r :: rest := by
                    cases e : l.shows with
                    | nil => rw [e] at hn1'; simp at hn1'
                    | cons r rest => exact ⟨r, rest, rfl⟩
                  have hrlen : r.length ≤ 2 := hr2' r (by rw [hrr]; exact List.mem_cons_self)
                  have hrest : ∀ xs ∈ rest, xs.length ≤ 2 := fun xs h => hr2' xs (by rw [hrr]; exact List.mem_cons_of_mem _ h)
                  obtain ⟨vs, a1, a2, a3⟩ := HLD.out.T
                  obtain ⟨r0, vr, rfl⟩ : ∃ r0 vr, vs = r0 :: vr := by
                    cases vs with
                    | nil => have := a1.1; simp at this; omega
                    | cons a b => exact ⟨a, b, rfl⟩
                  obtain ⟨gu, rfl⟩ : ∃ gu, AU = some ⟨gu, 0, none⟩ := by
                    rcases a1.2 with ⟨_, e⟩ | ⟨g, cap, cur, e, _⟩
                    · omega
                    · injection e with e1 e2 e3
                      exact ⟨g, e1⟩
                  have hx0 := a2 0 r0 r rfl (by rw [hrr]; rfl)
                  obtain ⟨Ar, cr, rfl, _⟩ := owns_form hx0
                  have HTV := Lib.hid (show TV w6 (w.heap.size + 1) (.slice (some ⟨gu, 0, none⟩) l.shows.length cU) l.shows.length (r :: rest) (.slice Ar r.length cr :: vr) from ⟨a1, fun i v xs h1 h2 => a2 i v xs h1 (by rw [hrr]; exact h2)⟩)
                  have HDJ := Lib.hid (show DJ (.slice Ar r.length cr :: vr) from a3)
                  have HNL := Lib.hid (show (r :: rest).length = l.shows.length from by rw [hrr])
                  have hpos : (0 : Int) < (l.shows.length : Int) := by omega
                  have HRR := Lib.hid hrr
                  have hpos' : 0 < l.shows.length := by omega
                  have hne : ¬ l.shows = [] := by rw [hrr]; simp
                  clear a1 a2 a3 hx0 hrr
                  go_wp2_with fail
                  refine wp_region_inv (by kernel_rfl) (fun L act W => ∃ (x : Int) (g7 g9 : Nat) (v : Value), act = ⟨#[Value.pointer (some ⟨p, 0, none⟩), undef, Value.pointer (some ⟨w.heap.size, 0, none⟩), Value.pointer (some ⟨w.heap.size + 1 + 1, 0, none⟩), Value.int IntKind.i64 (k : Int), Value.int IntKind.i64 (k : Int), u6, u7, Value.int IntKind.i64 0, undef, Value.slice (some ⟨w.heap.size + 1, 0, none⟩) 0 0, Value.agg #[Value.slice none 0 0, Value.slice (some ⟨w.heap.size + 1, 0, none⟩) 0 0], Value.pointer (some ⟨p, 0, none⟩), Value.slice (some ⟨w.heap.size + 1 + 1 + 1, 0, none⟩) 7 7, Value.int IntKind.i64 (k : Int), Value.int IntKind.i64 (k : Int), Value.int IntKind.i64 (k : Int), Value.bool false, u18, u19, u20, u21, u22, u23, u24, u25, u26, u27, u28, u29, u30, u31, u32, u33, u34, u35, u36, Value.pointer (some ⟨p, 0, none⟩), Value.int IntKind.i64 (k : Int), Value.int IntKind.i64 (2 * (k : Int)), Value.int IntKind.i64 (2 * (k : Int) + 1), Value.int IntKind.i64 (m0 : Int), Value.int IntKind.i64 0, Value.bool false, u44, u45, u46, u47, u48, u49, u50, u51, u52, u53, u54, u55, u56, u57, u58, u59, u60, u61, u62, u63, u64, u65, u66, u67, u68, u69, u70, u71, u72, u73, u74, u75, u76, u77, u78, u79, u80, u81, u82, u83, u84, Value.pointer (some ⟨p, 0, none⟩), Value.int IntKind.i64 0, Value.bool true, Value.bool true, bsel (L 0) (.pointer (some ⟨w.heap.size + 1 + 1, 0, none⟩)) (u89), bsel (L 1) (.slice (some ⟨gu, 0, none⟩) l.shows.length cU) (u90), bsel (L 2) (.pointer (some ⟨w.heap.size + 1 + 1, 0, none⟩)) (u91), bsel (L 3) (.slice (some ⟨gu, 0, none⟩) l.shows.length cU) (u92), bsel (L 4) (.pointer (some ⟨gu, 0, none⟩)) (u93), bsel (L 5) (.slice Ar r.length cr) (u94), bsel (L 6) (.pointer (some ⟨p, 0, none⟩)) (u95), bsel (L 7) (.slice (some ⟨g7, 0, none⟩) 4 4) (u96), bsel (L 8) (.int .i64 x) (u97), bsel (L 9) (.slice (some ⟨g9, 0, none⟩) 1 1) (u98), bsel (L 10) (v) (u99), bsel (L 11) (.pointer (some ⟨gu, 0, none⟩)) (u100), u101, u102, u103, u104, u105, u106, u107, u108, u109, u110, u111, u112, u113, u114, u115, u116, u117, u118, u119, u120, u121, u122, u123, u124, u125, u126, u127, u128, u129, u130, u131, u132, u133, u134, u135, u136, u137, u138, u139, u140, u141, u142, u143, u144], []⟩ ∧ (L 12 = true → L 11 = true) ∧ (L 11 = true → L 1 = true) ∧ (L 10 = true → L 5 = true) ∧ (L 10 = true → L 9 = true) ∧ (L 5 = true → L 4 = true) ∧ (L 4 = true → L 3 = true) ∧ (L 9 = true → L 8 = true) ∧ (L 8 = true → L 7 = true) ∧ (L 12 = true → L 10 = true) ∧ RS W0 p (w.heap.size + 1) (w.heap.size + 1 + 1) A bs c (K + 250) (.slice (some ⟨gu, 0, none⟩) l.shows.length cU) (.slice AT l.steps.length cT) l (.slice Ar r.length cr) vr r rest [0, -1, 7, 8] x (L 7) (L 8) (L 9) (L 10) (L 12) g7 g9 v W) ?h0 ?step ?fin
                  case h0 => exact ⟨0, 0, 0, .bool false, rfl, fun h => absurd h Bool.false_ne_true, fun h => absurd h Bool.false_ne_true, fun h => absurd h Bool.false_ne_true, fun h => absurd h Bool.false_ne_true, fun h => absurd h Bool.false_ne_true, fun h => absurd h Bool.false_ne_true, fun h => absurd h Bool.false_ne_true, fun h => absurd h Bool.false_ne_true, fun h => absurd h Bool.false_ne_true, RS.start HLD.out HTV.out _ _ _ _ _⟩
                  case step =>
                    intro L act W q oo hJ hL ho hd K3 hK3
                    obtain ⟨x, g7, g9, v, rfl, hI0, hI1, hI2, hI3, hI4, hI5, hI6, hI7, hI8, hF⟩ := hJ
                    match q, ho with
                    | 0, ho =>
                      simp only [List.getElem?_toArray, List.getElem?_cons_zero, List.getElem?_cons_succ, Option.some.injEq] at ho
                      subst ho
                      simp [Region.binds] at hd
                      try simp only [hd, bsel_t]
                      have HF := Lib.hid hF
                      clear hF
                      have HQI0 := Lib.hid hI0
                      clear hI0
                      have HQI1 := Lib.hid hI1
                      clear hI1
                      have HQI2 := Lib.hid hI2
                      clear hI2
                      have HQI3 := Lib.hid hI3
                      clear hI3
                      have HQI4 := Lib.hid hI4
                      clear hI4
                      have HQI5 := Lib.hid hI5
                      clear hI5
                      have HQI6 := Lib.hid hI6
                      clear hI6
                      have HQI7 := Lib.hid hI7
                      clear hI7
                      have HQI8 := Lib.hid hI8
                      clear hI8
                      go_simp
                      exact hK3 _ _ ⟨x, g7, g9, v, by first | (simp [upd, bsel]; done) | simp [upd, bsel, hd], by simpa [upd] using HQI0.out, by simpa [upd] using HQI1.out, by simpa [upd] using HQI2.out, by simpa [upd] using HQI3.out, by simpa [upd] using HQI4.out, by simpa [upd] using HQI5.out, by simpa [upd] using HQI6.out, by simpa [upd] using HQI7.out, by simpa [upd] using HQI8.out, HF.out⟩
                    | 1, ho =>
                      simp only [List.getElem?_toArray, List.getElem?_cons_zero, List.getElem?_cons_succ, Option.some.injEq] at ho
                      subst ho
                      simp [Region.binds] at hd
                      have hz1 : L 11 = false := by
                        cases e : L 11
                        · rfl
                        · exact absurd (hI1 e) (by simp [hL])
                      have e12 : L 12 = false := Bool.eq_false_iff.2 fun e => absurd (hI0 e) (by simp [hz1])
                      have hbx := hF.box e12
                      have s0 := cell_of_row W _ 0 _ _ _ hbx
                      clear hbx e12
                      try simp only [hd, bsel_t]
                      have HF := Lib.hid hF
                      clear hF
                      have HQI0 := Lib.hid hI0
                      clear hI0
                      have HQI1 := Lib.hid hI1
                      clear hI1
                      have HQI2 := Lib.hid hI2
                      clear hI2
                      have HQI3 := Lib.hid hI3
                      clear hI3
                      have HQI4 := Lib.hid hI4
                      clear hI4
                      have HQI5 := Lib.hid hI5
                      clear hI5
                      have HQI6 := Lib.hid hI6
                      clear hI6
                      have HQI7 := Lib.hid hI7
                      clear hI7
                      have HQI8 := Lib.hid hI8
                      clear hI8
                      go_simp
                      exact hK3 _ _ ⟨x, g7, g9, v, by simp [upd, bsel, hd, hz1], by simpa [upd] using HQI0.out, by simp [upd], by simpa [upd] using HQI2.out, by simpa [upd] using HQI3.out, by simpa [upd] using HQI4.out, by simpa [upd] using HQI5.out, by simpa [upd] using HQI6.out, by simpa [upd] using HQI7.out, by simpa [upd] using HQI8.out, HF.out⟩
                    | 2, ho =>
                      simp only [List.getElem?_toArray, List.getElem?_cons_zero, List.getElem?_cons_succ, Option.some.injEq] at ho
                      subst ho
                      simp [Region.binds] at hd
                      try simp only [hd, bsel_t]
                      have HF := Lib.hid hF
                      clear hF
                      have HQI0 := Lib.hid hI0
                      clear hI0
                      have HQI1 := Lib.hid hI1
                      clear hI1
                      have HQI2 := Lib.hid hI2
                      clear hI2
                      have HQI3 := Lib.hid hI3
                      clear hI3
                      have HQI4 := Lib.hid hI4
                      clear hI4
                      have HQI5 := Lib.hid hI5
                      clear hI5
                      have HQI6 := Lib.hid hI6
                      clear hI6
                      have HQI7 := Lib.hid hI7
                      clear hI7
                      have HQI8 := Lib.hid hI8
                      clear hI8
                      go_simp
                      exact hK3 _ _ ⟨x, g7, g9, v, by first | (simp [upd, bsel]; done) | simp [upd, bsel, hd], by simpa [upd] using HQI0.out, by simpa [upd] using HQI1.out, by simpa [upd] using HQI2.out, by simpa [upd] using HQI3.out, by simpa [upd] using HQI4.out, by simpa [upd] using HQI5.out, by simpa [upd] using HQI6.out, by simpa [upd] using HQI7.out, by simpa [upd] using HQI8.out, HF.out⟩
                    | 3, ho =>
                      simp only [List.getElem?_toArray, List.getElem?_cons_zero, List.getElem?_cons_succ, Option.some.injEq] at ho
                      subst ho
                      simp [Region.binds] at hd
                      have hz5 : L 4 = false := by
                        cases e : L 4
                        · rfl
                        · exact absurd (hI5 e) (by simp [hL])
                      have e12 : L 12 = false := Bool.eq_false_iff.2 fun e => absurd (hI4 (hI2 (hI8 e))) (by simp [hz5])
                      have hbx := hF.box e12
                      have s0 := cell_of_row W _ 0 _ _ _ hbx
                      clear hbx e12
                      try simp only [hd, bsel_t]
                      have HF := Lib.hid hF
                      clear hF
                      have HQI0 := Lib.hid hI0
                      clear hI0
                      have HQI1 := Lib.hid hI1
                      clear hI1
                      have HQI2 := Lib.hid hI2
                      clear hI2
                      have HQI3 := Lib.hid hI3
                      clear hI3
                      have HQI4 := Lib.hid hI4
                      clear hI4
                      have HQI5 := Lib.hid hI5
                      clear hI5
                      have HQI6 := Lib.hid hI6
                      clear hI6
                      have HQI7 := Lib.hid hI7
                      clear hI7
                      have HQI8 := Lib.hid hI8
                      clear hI8
                      go_simp
                      exact hK3 _ _ ⟨x, g7, g9, v, by simp [upd, bsel, hd, hz5], by simpa [upd] using HQI0.out, by simpa [upd] using HQI1.out, by simpa [upd] using HQI2.out, by simpa [upd] using HQI3.out, by simpa [upd] using HQI4.out, by simp [upd], by simpa [upd] using HQI6.out, by simpa [upd] using HQI7.out, by simpa [upd] using HQI8.out, HF.out⟩
                    | 4, ho =>
                      simp only [List.getElem?_toArray, List.getElem?_cons_zero, List.getElem?_cons_succ, Option.some.injEq] at ho
                      subst ho
                      simp [Region.binds] at hd
                      have hz4 : L 5 = false := by
                        cases e : L 5
                        · rfl
                        · exact absurd (hI4 e) (by simp [hL])
                      try simp only [hd, bsel_t]
                      have HF := Lib.hid hF
                      clear hF
                      have HQI0 := Lib.hid hI0
                      clear hI0
                      have HQI1 := Lib.hid hI1
                      clear hI1
                      have HQI2 := Lib.hid hI2
                      clear hI2
                      have HQI3 := Lib.hid hI3
                      clear hI3
                      have HQI4 := Lib.hid hI4
                      clear hI4
                      have HQI5 := Lib.hid hI5
                      clear hI5
                      have HQI6 := Lib.hid hI6
                      clear hI6
                      have HQI7 := Lib.hid hI7
                      clear hI7
                      have HQI8 := Lib.hid hI8
                      clear hI8
                      go_simp
                      exact hK3 _ _ ⟨x, g7, g9, v, by simp [upd, bsel, hd, hz4], by simpa [upd] using HQI0.out, by simpa [upd] using HQI1.out, by simpa [upd] using HQI2.out, by simpa [upd] using HQI3.out, by simp [upd], by simp [upd, hd], by simpa [upd] using HQI6.out, by simpa [upd] using HQI7.out, by simpa [upd] using HQI8.out, HF.out⟩
                    | 5, ho =>
                      simp only [List.getElem?_toArray, List.getElem?_cons_zero, List.getElem?_cons_succ, Option.some.injEq] at ho
                      subst ho
                      simp [Region.binds] at hd
                      have hz2 : L 10 = false := by
                        cases e : L 10
                        · rfl
                        · exact absurd (hI2 e) (by simp [hL])
                      have s0 : W.cell? ⟨gu, 0, none⟩ = some (.slice Ar r.length cr) := by simpa [Addr.add] using (hF.d hz2).2.1.cells (g := gu) rfl 0 _ rfl
                      try simp only [hd, bsel_t]
                      have HF := Lib.hid hF
                      clear hF
                      have HQI0 := Lib.hid hI0
                      clear hI0
                      have HQI1 := Lib.hid hI1
                      clear hI1
                      have HQI2 := Lib.hid hI2
                      clear hI2
                      have HQI3 := Lib.hid hI3
                      clear hI3
                      have HQI4 := Lib.hid hI4
                      clear hI4
                      have HQI5 := Lib.hid hI5
                      clear hI5
                      have HQI6 := Lib.hid hI6
                      clear hI6
                      have HQI7 := Lib.hid hI7
                      clear hI7
                      have HQI8 := Lib.hid hI8
                      clear hI8
                      go_simp
                      exact hK3 _ _ ⟨x, g7, g9, v, by simp [upd, bsel, hd, hz2], by simpa [upd] using HQI0.out, by simpa [upd] using HQI1.out, by simp [upd], by simpa [upd] using HQI3.out, by simp [upd, hd], by simpa [upd] using HQI5.out, by simpa [upd] using HQI6.out, by simpa [upd] using HQI7.out, by simpa [upd] using HQI8.out, HF.out⟩
                    | 6, ho =>
                      simp only [List.getElem?_toArray, List.getElem?_cons_zero, List.getElem?_cons_succ, Option.some.injEq] at ho
                      subst ho
                      simp [Region.binds] at hd
                      try simp only [hd, bsel_t]
                      have HF := Lib.hid hF
                      clear hF
                      have HQI0 := Lib.hid hI0
                      clear hI0
                      have HQI1 := Lib.hid hI1
                      clear hI1
                      have HQI2 := Lib.hid hI2
                      clear hI2
                      have HQI3 := Lib.hid hI3
                      clear hI3
                      have HQI4 := Lib.hid hI4
                      clear hI4
                      have HQI5 := Lib.hid hI5
                      clear hI5
                      have HQI6 := Lib.hid hI6
                      clear hI6
                      have HQI7 := Lib.hid hI7
                      clear hI7
                      have HQI8 := Lib.hid hI8
                      clear hI8
                      go_simp
                      exact hK3 _ _ ⟨x, g7, g9, v, by first | (simp [upd, bsel]; done) | simp [upd, bsel, hd], by simpa [upd] using HQI0.out, by simpa [upd] using HQI1.out, by simpa [upd] using HQI2.out, by simpa [upd] using HQI3.out, by simpa [upd] using HQI4.out, by simpa [upd] using HQI5.out, by simpa [upd] using HQI6.out, by simpa [upd] using HQI7.out, by simpa [upd] using HQI8.out, HF.out⟩
                    | 7, ho =>
                      simp only [List.getElem?_toArray, List.getElem?_cons_zero, List.getElem?_cons_succ, Option.some.injEq] at ho
                      subst ho
                      simp [Region.binds] at hd
                      have hz7 : L 8 = false := by
                        cases e : L 8
                        · rfl
                        · exact absurd (hI7 e) (by simp [hL])
                      rw [hL] at hF
                      have hx := hF.lit7 (by omega)
                      rw [show (ints [0, -1, 7, 8]).toArray = #[.int .i64 0, .int .i64 (-1), .int .i64 7, .int .i64 8] from rfl] at hx
                      have HF := Lib.hid hx
                      clear hF hx
                      have HQI0 := Lib.hid hI0
                      clear hI0
                      have HQI1 := Lib.hid hI1
                      clear hI1
                      have HQI2 := Lib.hid hI2
                      clear hI2
                      have HQI3 := Lib.hid hI3
                      clear hI3
                      have HQI4 := Lib.hid hI4
                      clear hI4
                      have HQI5 := Lib.hid hI5
                      clear hI5
                      have HQI6 := Lib.hid hI6
                      clear hI6
                      have HQI7 := Lib.hid hI7
                      clear hI7
                      have HQI8 := Lib.hid hI8
                      clear hI8
                      go_simp
                      exact hK3 _ _ ⟨x, W.heap.size, g9, v, by simp [upd, bsel, hd, hz7], by simpa [upd] using HQI0.out, by simpa [upd] using HQI1.out, by simpa [upd] using HQI2.out, by simpa [upd] using HQI3.out, by simpa [upd] using HQI4.out, by simpa [upd] using HQI5.out, by simpa [upd] using HQI6.out, by simp [upd], by simpa [upd] using HQI8.out, by simpa [upd, hd] using HF.out⟩
                    | 8, ho =>
                      simp only [List.getElem?_toArray, List.getElem?_cons_zero, List.getElem?_cons_succ, Option.some.injEq] at ho
                      subst ho
                      simp [Region.binds] at hd
                      have hz6 : L 9 = false := by
                        cases e : L 9
                        · rfl
                        · exact absurd (hI6 e) (by simp [hL])
                      have d7 : L 7 = true := by simp [hd]
                      rw [d7, hL] at hF
                      obtain ⟨e9, e10, e12⟩ := hF.q8
                      obtain ⟨h31, h32⟩ := hF.l7 rfl e10
                      have hC : Cur W p A bs c (K + 250) := by simpa using (hF.d e10).1.cur
                      have h4 := HAM.out W (K + 250) hC (by omega) [0, -1, 7, 8] g7 4 (by simp) (by simp) h32 (by omega)
                      have H4 := Lib.hid (show Calls Tryz.prog 104 #[.pointer (some ⟨p, 0, none⟩), .slice (some ⟨g7, 0, none⟩) 4 4] W _ from h4)
                      clear h31 h32 hC h4 e9 e10 e12
                      simp only [hd, bsel_t]
                      have HF := Lib.hid hF
                      clear hF
                      have HQI0 := Lib.hid hI0
                      clear hI0
                      have HQI1 := Lib.hid hI1
                      clear hI1
                      have HQI2 := Lib.hid hI2
                      clear hI2
                      have HQI3 := Lib.hid hI3
                      clear hI3
                      have HQI4 := Lib.hid hI4
                      clear hI4
                      have HQI5 := Lib.hid hI5
                      clear hI5
                      have HQI6 := Lib.hid hI6
                      clear hI6
                      have HQI7 := Lib.hid hI7
                      clear hI7
                      have HQI8 := Lib.hid hI8
                      clear hI8
                      go_simp
                      go_at_call 104
                      (with_reducible refine H4.out.mono ?_)
                      rintro e W' ⟨x', rfl, -, hC', hk'⟩
                      have HF := Lib.hid (HF.out.draw (x' := x') hpB (Nat.le_succ _) hk' hC')
                      clear hC' hk'
                      go_simp
                      exact hK3 _ _ ⟨x', g7, g9, v, by simp [upd, bsel, hd, hz6], by simpa [upd] using HQI0.out, by simpa [upd] using HQI1.out, by simpa [upd] using HQI2.out, by simpa [upd] using HQI3.out, by simpa [upd] using HQI4.out, by simpa [upd] using HQI5.out, by simp [upd], by simp [upd, hd], by simpa [upd] using HQI8.out, by simpa [upd, hd] using HF.out⟩
                    | 9, ho =>
                      simp only [List.getElem?_toArray, List.getElem?_cons_zero, List.getElem?_cons_succ, Option.some.injEq] at ho
                      subst ho
                      simp [Region.binds] at hd
                      have hz3 : L 10 = false := by
                        cases e : L 10
                        · rfl
                        · exact absurd (hI3 e) (by simp [hL])
                      have d8 : L 8 = true := by simp [hd]
                      rw [d8, hL] at hF
                      simp only [hd, bsel_t]
                      have HF := Lib.hid hF.build
                      clear hF
                      have HQI0 := Lib.hid hI0
                      clear hI0
                      have HQI1 := Lib.hid hI1
                      clear hI1
                      have HQI2 := Lib.hid hI2
                      clear hI2
                      have HQI3 := Lib.hid hI3
                      clear hI3
                      have HQI4 := Lib.hid hI4
                      clear hI4
                      have HQI5 := Lib.hid hI5
                      clear hI5
                      have HQI6 := Lib.hid hI6
                      clear hI6
                      have HQI7 := Lib.hid hI7
                      clear hI7
                      have HQI8 := Lib.hid hI8
                      clear hI8
                      go_simp
                      exact hK3 _ _ ⟨x, g7, W.heap.size, v, by simp [upd, bsel, hd, hz3], by simpa [upd] using HQI0.out, by simpa [upd] using HQI1.out, by simpa [upd] using HQI2.out, by simp [upd], by simpa [upd] using HQI4.out, by simpa [upd] using HQI5.out, by simp [upd, hd], by simpa [upd] using HQI7.out, by simpa [upd] using HQI8.out, by simpa [upd, hd] using HF.out⟩
                    | 10, ho =>
                      simp only [List.getElem?_toArray, List.getElem?_cons_zero, List.getElem?_cons_succ, Option.some.injEq] at ho
                      subst ho
                      simp [Region.binds] at hd
                      have hz8 : L 12 = false := by
                        cases e : L 12
                        · rfl
                        · exact absurd (hI8 e) (by simp [hL])
                      have d9 : L 9 = true := by simp [hd]
                      have d8 : L 8 = true := hI6 d9
                      rw [d8, d9, hL] at hF
                      simp only [hd, bsel_t]
                      have HF := Lib.hid hF
                      clear hF
                      refine step_appG el_int rfl (.tmp 94) (.tmp 98) rfl (w.heap.size + 1) (.slice Ar r.length cr) r.length (ints r) (by rfl) ((HF.out.d rfl).2.2 0 _ r rfl rfl) ⟨g9, 0, none⟩ 1 1 [.int .i64 x] (by rfl) rfl (fun j' u' hj' => by match j', hj' with | 0, hj' => (simp at hj'; subst hj'; exact cell_of_row W g9 _ _ _ _ (HF.out.h9 rfl rfl))) (one1 rfl) (by unfold maxLen; omega) (by omega) (by have := (HF.out.d rfl).1.size; omega) ?_
                      intro v' W' ho hg
                      have HF := Lib.hid (HF.out.app hpB HDJ.out ho hg)
                      clear ho hg
                      have HQI0 := Lib.hid hI0
                      clear hI0
                      have HQI1 := Lib.hid hI1
                      clear hI1
                      have HQI2 := Lib.hid hI2
                      clear hI2
                      have HQI3 := Lib.hid hI3
                      clear hI3
                      have HQI4 := Lib.hid hI4
                      clear hI4
                      have HQI5 := Lib.hid hI5
                      clear hI5
                      have HQI6 := Lib.hid hI6
                      clear hI6
                      have HQI7 := Lib.hid hI7
                      clear hI7
                      have HQI8 := Lib.hid hI8
                      clear hI8
                      go_simp
                      exact hK3 _ _ ⟨x, g7, g9, v', by first | (simp [upd, bsel, d8]; done) | simp [upd, bsel, hd, d8], by simpa [upd] using HQI0.out, by simpa [upd] using HQI1.out, by simp [upd, hd], by simp [upd, hd], by simpa [upd] using HQI4.out, by simpa [upd] using HQI5.out, by simpa [upd] using HQI6.out, by simpa [upd] using HQI7.out, by simp [upd], by simpa [upd, d8, hd] using HF.out⟩
                    | 11, ho =>
                      simp only [List.getElem?_toArray, List.getElem?_cons_zero, List.getElem?_cons_succ, Option.some.injEq] at ho
                      subst ho
                      simp [Region.binds] at hd
                      have hz0 : L 12 = false := by
                        cases e : L 12
                        · rfl
                        · exact absurd (hI0 e) (by simp [hL])
                      try simp only [hd, bsel_t]
                      have HF := Lib.hid hF
                      clear hF
                      have HQI0 := Lib.hid hI0
                      clear hI0
                      have HQI1 := Lib.hid hI1
                      clear hI1
                      have HQI2 := Lib.hid hI2
                      clear hI2
                      have HQI3 := Lib.hid hI3
                      clear hI3
                      have HQI4 := Lib.hid hI4
                      clear hI4
                      have HQI5 := Lib.hid hI5
                      clear hI5
                      have HQI6 := Lib.hid hI6
                      clear hI6
                      have HQI7 := Lib.hid hI7
                      clear hI7
                      have HQI8 := Lib.hid hI8
                      clear hI8
                      go_simp
                      exact hK3 _ _ ⟨x, g7, g9, v, by simp [upd, bsel, hd, hz0], by simp [upd], by simp [upd, hd], by simpa [upd] using HQI2.out, by simpa [upd] using HQI3.out, by simpa [upd] using HQI4.out, by simpa [upd] using HQI5.out, by simpa [upd] using HQI6.out, by simpa [upd] using HQI7.out, by simpa [upd] using HQI8.out, HF.out⟩
                    | 12, ho =>
                      simp only [List.getElem?_toArray, List.getElem?_cons_zero, List.getElem?_cons_succ, Option.some.injEq] at ho
                      subst ho
                      simp [Region.binds] at hd
                      have d10 : L 10 = true := by simp [hd]
                      rw [d10, hL] at hF
                      obtain ⟨h1, h2, h3, h4, h5, h6, h7⟩ := hF.k rfl rfl
                      obtain ⟨A', c', rfl, _⟩ := owns_form h7
                      have s0 : W.cell? ⟨gu, 0, none⟩ = some (.slice Ar r.length cr) := by simpa [Addr.add] using h5.cells (g := gu) rfl 0 _ rfl
                      have s1 := h5.frozenAt 0
                      clear h1 h2 h3 h4 h5 h6 h7
                      simp only [hd, bsel_t]
                      have HF := Lib.hid (hF.store rfl HNL.out hpB ⟨by show (rest.length + 1) ≤ 60; have := HNL.out; simp at this; omega, fun xs h => by rcases List.mem_cons.1 h with h | h; (rw [h]; simp; omega); (have := hrest xs h; omega), Nat.le_trans hs40 (by decide)⟩)
                      clear hF
                      have HQI0 := Lib.hid hI0
                      clear hI0
                      have HQI1 := Lib.hid hI1
                      clear hI1
                      have HQI2 := Lib.hid hI2
                      clear hI2
                      have HQI3 := Lib.hid hI3
                      clear hI3
                      have HQI4 := Lib.hid hI4
                      clear hI4
                      have HQI5 := Lib.hid hI5
                      clear hI5
                      have HQI6 := Lib.hid hI6
                      clear hI6
                      have HQI7 := Lib.hid hI7
                      clear hI7
                      have HQI8 := Lib.hid hI8
                      clear hI8
                      go_simp
                      exact hK3 _ _ ⟨x, g7, g9, .slice A' (r ++ [x]).length c', by simp [upd, bsel, hd], by simp [upd, hd], by simpa [upd] using HQI1.out, by simpa [upd] using HQI2.out, by simpa [upd] using HQI3.out, by simpa [upd] using HQI4.out, by simpa [upd] using HQI5.out, by simpa [upd] using HQI6.out, by simpa [upd] using HQI7.out, by simp [upd, hd], by simpa [upd, hd] using HF.out⟩
                    | q + 13, ho => simp at ho
                  case fin =>
                    intro L act W hJ hfin
                    obtain ⟨x, g7, g9, v, rfl, hI0, hI1, hI2, hI3, hI4, hI5, hI6, hI7, hI8, hF⟩ := hJ
                    have l0 : L 0 = true := by
                      cases e : L 0
                      · have x := hfin 0 _ rfl e
                        simp [Region.binds] at x
                      · rfl
                    have l1 : L 1 = true := by
                      cases e : L 1
                      · have x := hfin 1 _ rfl e
                        simp [Region.binds, l0] at x
                      · rfl
                    have l2 : L 2 = true := by
                      cases e : L 2
                      · have x := hfin 2 _ rfl e
                        simp [Region.binds, l0, l1] at x
                      · rfl
                    have l3 : L 3 = true := by
                      cases e : L 3
                      · have x := hfin 3 _ rfl e
                        simp [Region.binds, l0, l1, l2] at x
                      · rfl
                    have l4 : L 4 = true := by
                      cases e : L 4
                      · have x := hfin 4 _ rfl e
                        simp [Region.binds, l0, l1, l2, l3] at x
                      · rfl
                    have l5 : L 5 = true := by
                      cases e : L 5
                      · have x := hfin 5 _ rfl e
                        simp [Region.binds, l0, l1, l2, l3, l4] at x
                      · rfl
                    have l6 : L 6 = true := by
                      cases e : L 6
                      · have x := hfin 6 _ rfl e
                        simp [Region.binds, l0, l1, l2, l3, l4, l5] at x
                      · rfl
                    have l7 : L 7 = true := by
                      cases e : L 7
                      · have x := hfin 7 _ rfl e
                        simp [Region.binds, l0, l1, l2, l3, l4, l5, l6] at x
                      · rfl
                    have l8 : L 8 = true := by
                      cases e : L 8
                      · have x := hfin 8 _ rfl e
                        simp [Region.binds, l0, l1, l2, l3, l4, l5, l6, l7] at x
                      · rfl
                    have l9 : L 9 = true := by
                      cases e : L 9
                      · have x := hfin 9 _ rfl e
                        simp [Region.binds, l0, l1, l2, l3, l4, l5, l6, l7, l8] at x
                      · rfl
                    have l10 : L 10 = true := by
                      cases e : L 10
                      · have x := hfin 10 _ rfl e
                        simp [Region.binds, l0, l1, l2, l3, l4, l5, l6, l7, l8, l9] at x
                      · rfl
                    have l11 : L 11 = true := by
                      cases e : L 11
                      · have x := hfin 11 _ rfl e
                        simp [Region.binds, l0, l1, l2, l3, l4, l5, l6, l7, l8, l9, l10] at x
                      · rfl
                    have l12 : L 12 = true := by
                      cases e : L 12
                      · have x := hfin 12 _ rfl e
                        simp [Region.binds, l0, l1, l2, l3, l4, l5, l6, l7, l8, l9, l10, l11] at x
                      · rfl
                    simp only [l0, l1, l2, l3, l4, l5, l6, l7, l8, l9, l10, l11, l12, bsel_t]
                    have HLF := Lib.hid (hF.f l12)
                    clear hF hfin hI0 hI1 hI2 hI3 hI4 hI5 hI6 hI7 hI8 l0 l1 l2 l3 l4 l5 l6 l7 l8 l9 l10 l11 l12
                    go_wp2_with fail
                    go_meet
                    case rel => exact ⟨_, _, _, { HLF.out with cur := HLF.out.cur.mono (by omega) }⟩
                have e0 : (y == 0) = false := by simpa using y0
                by_cases y1 : y = 1
                · subst y1
                  go_wp2_with fail
                  refine wp_region_inv (by kernel_rfl) (fun L act W => ∃ (x : Int) (g3 g6 : Nat) (v : Value), act = ⟨#[Value.pointer (some ⟨p, 0, none⟩), undef, Value.pointer (some ⟨w.heap.size, 0, none⟩), Value.pointer (some ⟨w.heap.size + 1 + 1, 0, none⟩), Value.int IntKind.i64 (k : Int), Value.int IntKind.i64 (k : Int), u6, u7, Value.int IntKind.i64 0, undef, Value.slice (some ⟨w.heap.size + 1, 0, none⟩) 0 0, Value.agg #[Value.slice none 0 0, Value.slice (some ⟨w.heap.size + 1, 0, none⟩) 0 0], Value.pointer (some ⟨p, 0, none⟩), Value.slice (some ⟨w.heap.size + 1 + 1 + 1, 0, none⟩) 7 7, Value.int IntKind.i64 (k : Int), Value.int IntKind.i64 (k : Int), Value.int IntKind.i64 (k : Int), Value.bool false, u18, u19, u20, u21, u22, u23, u24, u25, u26, u27, u28, u29, u30, u31, u32, u33, u34, u35, u36, Value.pointer (some ⟨p, 0, none⟩), Value.int IntKind.i64 (k : Int), Value.int IntKind.i64 (2 * (k : Int)), Value.int IntKind.i64 (2 * (k : Int) + 1), Value.int IntKind.i64 (m0 : Int), Value.int IntKind.i64 0, Value.bool false, u44, u45, u46, u47, u48, u49, u50, u51, u52, u53, u54, u55, u56, u57, u58, u59, u60, u61, u62, u63, u64, u65, u66, u67, u68, u69, u70, u71, u72, u73, u74, u75, u76, u77, u78, u79, u80, u81, u82, u83, u84, Value.pointer (some ⟨p, 0, none⟩), Value.int IntKind.i64 1, Value.bool false, Value.bool false, u89, u90, u91, u92, u93, u94, u95, u96, u97, u98, u99, u100, Value.bool true, Value.bool true, bsel (L 0) (.pointer (some ⟨w.heap.size + 1 + 1, 1, none⟩)) (u103), bsel (L 1) (.slice AT l.steps.length cT) (u104), bsel (L 2) (.pointer (some ⟨p, 0, none⟩)) (u105), bsel (L 3) (.slice (some ⟨g3, 0, none⟩) 4 4) (u106), bsel (L 4) (.int .i64 x) (u107), bsel (L 5) (.agg #[.int .i64 0, .int .i64 x, .int .i64 0]) (u108), bsel (L 6) (.slice (some ⟨g6, 0, none⟩) 1 1) (u109), bsel (L 7) (v) (u110), bsel (L 8) (.pointer (some ⟨w.heap.size + 1 + 1, 1, none⟩)) (u111), u112, u113, u114, u115, u116, u117, u118, u119, u120, u121, u122, u123, u124, u125, u126, u127, u128, u129, u130, u131, u132, u133, u134, u135, u136, u137, u138, u139, u140, u141, u142, u143, u144], []⟩ ∧ (L 7 = true → L 1 = true) ∧ (L 7 = true → L 6 = true) ∧ (L 6 = true → L 5 = true) ∧ (L 5 = true → L 4 = true) ∧ (L 4 = true → L 3 = true) ∧ AS W0 p (w.heap.size + 1) (w.heap.size + 1 + 1) A bs c (K + 250) (.slice AU l.shows.length cU) (.slice AT l.steps.length cT) l [0, 7, 8, -1] (0, x, 0) (L 3) (L 4) (L 6) (L 7) (L 9) g3 g6 v W) ?h0 ?step ?fin
                  case h0 => exact ⟨0, 0, 0, .bool false, rfl, fun h => absurd h Bool.false_ne_true, fun h => absurd h Bool.false_ne_true, fun h => absurd h Bool.false_ne_true, fun h => absurd h Bool.false_ne_true, fun h => absurd h Bool.false_ne_true, AS.start HLD.out _ _ _ _ _⟩
                  case step =>
                    intro L act W q oo hJ hL ho hd K3 hK3
                    obtain ⟨x, g3, g6, v, rfl, hI0, hI1, hI2, hI3, hI4, hF⟩ := hJ
                    match q, ho with
                    | 0, ho =>
                      simp only [List.getElem?_toArray, List.getElem?_cons_zero, List.getElem?_cons_succ, Option.some.injEq] at ho
                      subst ho
                      simp [Region.binds] at hd
                      try simp only [hd, bsel_t]
                      have HF := Lib.hid hF
                      clear hF
                      have HQI0 := Lib.hid hI0
                      clear hI0
                      have HQI1 := Lib.hid hI1
                      clear hI1
                      have HQI2 := Lib.hid hI2
                      clear hI2
                      have HQI3 := Lib.hid hI3
                      clear hI3
                      have HQI4 := Lib.hid hI4
                      clear hI4
                      go_simp
                      exact hK3 _ _ ⟨x, g3, g6, v, by first | (simp [upd, bsel]; done) | simp [upd, bsel, hd], by simpa [upd] using HQI0.out, by simpa [upd] using HQI1.out, by simpa [upd] using HQI2.out, by simpa [upd] using HQI3.out, by simpa [upd] using HQI4.out, HF.out⟩
                    | 1, ho =>
                      simp only [List.getElem?_toArray, List.getElem?_cons_zero, List.getElem?_cons_succ, Option.some.injEq] at ho
                      subst ho
                      simp [Region.binds] at hd
                      have hz0 : L 7 = false := by
                        cases e : L 7
                        · rfl
                        · exact absurd (hI0 e) (by simp [hL])
                      have s0 := cell_of_row W _ 1 _ _ _ (hF.d hz0).box
                      try simp only [hd, bsel_t]
                      have HF := Lib.hid hF
                      clear hF
                      have HQI0 := Lib.hid hI0
                      clear hI0
                      have HQI1 := Lib.hid hI1
                      clear hI1
                      have HQI2 := Lib.hid hI2
                      clear hI2
                      have HQI3 := Lib.hid hI3
                      clear hI3
                      have HQI4 := Lib.hid hI4
                      clear hI4
                      go_simp
                      exact hK3 _ _ ⟨x, g3, g6, v, by simp [upd, bsel, hd, hz0], by simp [upd], by simpa [upd] using HQI1.out, by simpa [upd] using HQI2.out, by simpa [upd] using HQI3.out, by simpa [upd] using HQI4.out, HF.out⟩
                    | 2, ho =>
                      simp only [List.getElem?_toArray, List.getElem?_cons_zero, List.getElem?_cons_succ, Option.some.injEq] at ho
                      subst ho
                      simp [Region.binds] at hd
                      try simp only [hd, bsel_t]
                      have HF := Lib.hid hF
                      clear hF
                      have HQI0 := Lib.hid hI0
                      clear hI0
                      have HQI1 := Lib.hid hI1
                      clear hI1
                      have HQI2 := Lib.hid hI2
                      clear hI2
                      have HQI3 := Lib.hid hI3
                      clear hI3
                      have HQI4 := Lib.hid hI4
                      clear hI4
                      go_simp
                      exact hK3 _ _ ⟨x, g3, g6, v, by first | (simp [upd, bsel]; done) | simp [upd, bsel, hd], by simpa [upd] using HQI0.out, by simpa [upd] using HQI1.out, by simpa [upd] using HQI2.out, by simpa [upd] using HQI3.out, by simpa [upd] using HQI4.out, HF.out⟩
                    | 3, ho =>
                      simp only [List.getElem?_toArray, List.getElem?_cons_zero, List.getElem?_cons_succ, Option.some.injEq] at ho
                      subst ho
                      simp [Region.binds] at hd
                      have hz4 : L 4 = false := by
                        cases e : L 4
                        · rfl
                        · exact absurd (hI4 e) (by simp [hL])
                      rw [hL] at hF
                      try simp only [hd, bsel_t]
                      have hx := hF.lit3 (by omega)
                      rw [show (ints [0, 7, 8, -1]).toArray = #[.int .i64 (0), .int .i64 (7), .int .i64 (8), .int .i64 (-1)] from rfl] at hx
                      have HF := Lib.hid hx
                      clear hF hx
                      have HQI0 := Lib.hid hI0
                      clear hI0
                      have HQI1 := Lib.hid hI1
                      clear hI1
                      have HQI2 := Lib.hid hI2
                      clear hI2
                      have HQI3 := Lib.hid hI3
                      clear hI3
                      have HQI4 := Lib.hid hI4
                      clear hI4
                      go_simp
                      exact hK3 _ _ ⟨x, W.heap.size, g6, v, by simp [upd, bsel, hd, hz4], by simpa [upd] using HQI0.out, by simpa [upd] using HQI1.out, by simpa [upd] using HQI2.out, by simpa [upd] using HQI3.out, by simp [upd], by simpa [upd, hd] using HF.out⟩
                    | 4, ho =>
                      simp only [List.getElem?_toArray, List.getElem?_cons_zero, List.getElem?_cons_succ, Option.some.injEq] at ho
                      subst ho
                      simp [Region.binds] at hd
                      have hz3 : L 5 = false := by
                        cases e : L 5
                        · rfl
                        · exact absurd (hI3 e) (by simp [hL])
                      have d3 : L 3 = true := by simp [hd]
                      rw [d3, hL] at hF
                      obtain ⟨e6, e7, e9⟩ := hF.q4
                      obtain ⟨h31, h32⟩ := hF.l3 rfl e7
                      have hC : Cur W p A bs c (K + 250) := by simpa using (hF.d e7).cur
                      have h4 := HAM.out W (K + 250) hC (by omega) [0, 7, 8, -1] g3 4 (by simp) (by simp) h32 (by omega)
                      have H4 := Lib.hid (show Calls Tryz.prog 104 #[.pointer (some ⟨p, 0, none⟩), .slice (some ⟨g3, 0, none⟩) 4 4] W _ from h4)
                      clear h31 h32 hC h4 e6 e7 e9
                      simp only [hd, bsel_t]
                      have HF := Lib.hid hF
                      clear hF
                      have HQI0 := Lib.hid hI0
                      clear hI0
                      have HQI1 := Lib.hid hI1
                      clear hI1
                      have HQI2 := Lib.hid hI2
                      clear hI2
                      have HQI3 := Lib.hid hI3
                      clear hI3
                      have HQI4 := Lib.hid hI4
                      clear hI4
                      go_simp
                      go_at_call 104
                      (with_reducible refine H4.out.mono ?_)
                      rintro e W' ⟨x', rfl, -, hC', hk'⟩
                      have HF := Lib.hid (HF.out.draw (y' := (0, x', 0)) hpB (Nat.le_succ _) hk' hC')
                      clear hC' hk'
                      go_simp
                      exact hK3 _ _ ⟨x', g3, g6, v, by simp [upd, bsel, hd, hz3], by simpa [upd] using HQI0.out, by simpa [upd] using HQI1.out, by simpa [upd] using HQI2.out, by simp [upd], by simp [upd, hd], by simpa [upd, hd] using HF.out⟩
                    | 5, ho =>
                      simp only [List.getElem?_toArray, List.getElem?_cons_zero, List.getElem?_cons_succ, Option.some.injEq] at ho
                      subst ho
                      simp [Region.binds] at hd
                      have hz2 : L 6 = false := by
                        cases e : L 6
                        · rfl
                        · exact absurd (hI2 e) (by simp [hL])
                      try simp only [hd, bsel_t]
                      have HF := Lib.hid hF
                      clear hF
                      have HQI0 := Lib.hid hI0
                      clear hI0
                      have HQI1 := Lib.hid hI1
                      clear hI1
                      have HQI2 := Lib.hid hI2
                      clear hI2
                      have HQI3 := Lib.hid hI3
                      clear hI3
                      have HQI4 := Lib.hid hI4
                      clear hI4
                      go_simp
                      exact hK3 _ _ ⟨x, g3, g6, v, by simp [upd, bsel, hd, hz2], by simpa [upd] using HQI0.out, by simpa [upd] using HQI1.out, by simp [upd], by simp [upd, hd], by simpa [upd] using HQI4.out, HF.out⟩
                    | 6, ho =>
                      simp only [List.getElem?_toArray, List.getElem?_cons_zero, List.getElem?_cons_succ, Option.some.injEq] at ho
                      subst ho
                      simp [Region.binds] at hd
                      have hz1 : L 7 = false := by
                        cases e : L 7
                        · rfl
                        · exact absurd (hI1 e) (by simp [hL])
                      have d4 : L 4 = true := hI3 (by simp [hd])
                      rw [d4, hL] at hF
                      simp only [hd, bsel_t]
                      have HF := Lib.hid hF.build
                      clear hF
                      have HQI0 := Lib.hid hI0
                      clear hI0
                      have HQI1 := Lib.hid hI1
                      clear hI1
                      have HQI2 := Lib.hid hI2
                      clear hI2
                      have HQI3 := Lib.hid hI3
                      clear hI3
                      have HQI4 := Lib.hid hI4
                      clear hI4
                      go_simp
                      exact hK3 _ _ ⟨x, g3, W.heap.size, v, by first | (simp [upd, bsel, hz1, d4]; done) | simp [upd, bsel, hd, hz1, d4], by simpa [upd] using HQI0.out, by simp [upd], by simp [upd, hd], by simpa [upd] using HQI3.out, by simpa [upd] using HQI4.out, by simpa [upd, d4] using HF.out⟩
                    | 7, ho =>
                      simp only [List.getElem?_toArray, List.getElem?_cons_zero, List.getElem?_cons_succ, Option.some.injEq] at ho
                      subst ho
                      simp [Region.binds] at hd
                      have d6 : L 6 = true := by simp [hd]
                      have d4 : L 4 = true := hI3 (hI2 d6)
                      rw [d4, d6, hL] at hF
                      simp only [hd, bsel_t]
                      have HF := Lib.hid hF
                      clear hF
                      refine step_appG el_a3 rfl (.tmp 104) (.tmp 109) rfl (w.heap.size + 1) (.slice AT l.steps.length cT) l.steps.length (l.steps.flatMap tri) (by rfl) (HF.out.d rfl).S ⟨g6, 0, none⟩ 1 1 (tri (0, x, 0)) (by rfl) rfl (fun j' u' hj' => by match j', hj' with | 0, hj' | 1, hj' | 2, hj' => (simp [tri] at hj'; subst hj'; exact cell_of_row W g6 _ _ _ _ (HF.out.h6 rfl rfl))) (by intro u' hu'; simp [tri] at hu'; rcases hu' with rfl | rfl | rfl <;> rfl) (by unfold maxLen; omega) (by omega) (by have := (HF.out.d rfl).size; omega) ?_
                      intro v' W' ho hg
                      have HF := Lib.hid (HF.out.app hpB ho hg)
                      clear ho hg
                      have HQI0 := Lib.hid hI0
                      clear hI0
                      have HQI1 := Lib.hid hI1
                      clear hI1
                      have HQI2 := Lib.hid hI2
                      clear hI2
                      have HQI3 := Lib.hid hI3
                      clear hI3
                      have HQI4 := Lib.hid hI4
                      clear hI4
                      go_simp
                      exact hK3 _ _ ⟨x, g3, g6, v', by first | (simp [upd, bsel]; done) | simp [upd, bsel, hd], by simp [upd, hd], by simp [upd, hd], by simpa [upd] using HQI2.out, by simpa [upd] using HQI3.out, by simpa [upd] using HQI4.out, by simpa [upd, d4, d6] using HF.out⟩
                    | 8, ho =>
                      simp only [List.getElem?_toArray, List.getElem?_cons_zero, List.getElem?_cons_succ, Option.some.injEq] at ho
                      subst ho
                      simp [Region.binds] at hd
                      try simp only [hd, bsel_t]
                      have HF := Lib.hid hF
                      clear hF
                      have HQI0 := Lib.hid hI0
                      clear hI0
                      have HQI1 := Lib.hid hI1
                      clear hI1
                      have HQI2 := Lib.hid hI2
                      clear hI2
                      have HQI3 := Lib.hid hI3
                      clear hI3
                      have HQI4 := Lib.hid hI4
                      clear hI4
                      go_simp
                      exact hK3 _ _ ⟨x, g3, g6, v, by first | (simp [upd, bsel]; done) | simp [upd, bsel, hd], by simpa [upd] using HQI0.out, by simpa [upd] using HQI1.out, by simpa [upd] using HQI2.out, by simpa [upd] using HQI3.out, by simpa [upd] using HQI4.out, HF.out⟩
                    | 9, ho =>
                      simp only [List.getElem?_toArray, List.getElem?_cons_zero, List.getElem?_cons_succ, Option.some.injEq] at ho
                      subst ho
                      simp [Region.binds] at hd
                      have d7 : L 7 = true := by simp [hd]
                      rw [d7, hL] at hF
                      obtain ⟨h1, h2, h3, h4, h5⟩ := hF.k rfl rfl
                      obtain ⟨A', c', rfl, _⟩ := owns_form h5
                      have s0 := cell_of_row W _ 1 _ _ _ h3
                      have s1 := frozen_of_row W _ 1 _ _ h3
                      clear h1 h2 h3 h4 h5
                      simp only [hd, bsel_t]
                      have HF := Lib.hid (hF.store hpB (Nat.le_succ _))
                      clear hF
                      have HQI0 := Lib.hid hI0
                      clear hI0
                      have HQI1 := Lib.hid hI1
                      clear hI1
                      have HQI2 := Lib.hid hI2
                      clear hI2
                      have HQI3 := Lib.hid hI3
                      clear hI3
                      have HQI4 := Lib.hid hI4
                      clear hI4
                      go_simp
                      exact hK3 _ _ ⟨x, g3, g6, .slice A' (l.steps ++ [(0, x, 0)]).length c', by simp [upd, bsel, hd], by simpa [upd] using HQI0.out, by simpa [upd] using HQI1.out, by simpa [upd] using HQI2.out, by simpa [upd] using HQI3.out, by simpa [upd] using HQI4.out, by simpa [upd, hd] using HF.out⟩
                    | q + 10, ho => simp at ho
                  case fin =>
                    intro L act W hJ hfin
                    obtain ⟨x, g3, g6, v, rfl, hI0, hI1, hI2, hI3, hI4, hF⟩ := hJ
                    have l0 : L 0 = true := by
                      cases e : L 0
                      · have x := hfin 0 _ rfl e
                        simp [Region.binds] at x
                      · rfl
                    have l1 : L 1 = true := by
                      cases e : L 1
                      · have x := hfin 1 _ rfl e
                        simp [Region.binds, l0] at x
                      · rfl
                    have l2 : L 2 = true := by
                      cases e : L 2
                      · have x := hfin 2 _ rfl e
                        simp [Region.binds, l0, l1] at x
                      · rfl
                    have l3 : L 3 = true := by
                      cases e : L 3
                      · have x := hfin 3 _ rfl e
                        simp [Region.binds, l0, l1, l2] at x
                      · rfl
                    have l4 : L 4 = true := by
                      cases e : L 4
                      · have x := hfin 4 _ rfl e
                        simp [Region.binds, l0, l1, l2, l3] at x
                      · rfl
                    have l5 : L 5 = true := by
                      cases e : L 5
                      · have x := hfin 5 _ rfl e
                        simp [Region.binds, l0, l1, l2, l3, l4] at x
                      · rfl
                    have l6 : L 6 = true := by
                      cases e : L 6
                      · have x := hfin 6 _ rfl e
                        simp [Region.binds, l0, l1, l2, l3, l4, l5] at x
                      · rfl
                    have l7 : L 7 = true := by
                      cases e : L 7
                      · have x := hfin 7 _ rfl e
                        simp [Region.binds, l0, l1, l2, l3, l4, l5, l6] at x
                      · rfl
                    have l8 : L 8 = true := by
                      cases e : L 8
                      · have x := hfin 8 _ rfl e
                        simp [Region.binds, l0, l1, l2, l3, l4, l5, l6, l7] at x
                      · rfl
                    have l9 : L 9 = true := by
                      cases e : L 9
                      · have x := hfin 9 _ rfl e
                        simp [Region.binds, l0, l1, l2, l3, l4, l5, l6, l7, l8] at x
                      · rfl
                    simp only [l0, l1, l2, l3, l4, l5, l6, l7, l8, l9, bsel_t]
                    have hf := hF.f l9
                    have HLF := Lib.hid hf
                    clear hF hf hfin hI0 hI1 hI2 hI3 hI4 l0 l1 l2 l3 l4 l5 l6 l7 l8 l9
                    go_wp2_with fail
                    go_meet
                    case rel => exact ⟨_, _, ⟨l.shows, l.steps ++ [(0, x, 0)]⟩, HLF.out.lx (by omega) ⟨by show l.shows.length ≤ 60; omega, fun xs h => Nat.le_trans (hr2' xs h) (by decide), by show (l.steps ++ [(0, x, 0)]).length ≤ 100; simp; omega⟩⟩
                have e1 : (y == 1) = false := by simpa using y1
                by_cases y2 : y = 2
                · subst y2
                  go_wp2_with fail
                  refine wp_region_inv (by kernel_rfl) (fun L act W => ∃ (x : Int) (g3 g6 : Nat) (v : Value), act = ⟨#[Value.pointer (some ⟨p, 0, none⟩), undef, Value.pointer (some ⟨w.heap.size, 0, none⟩), Value.pointer (some ⟨w.heap.size + 1 + 1, 0, none⟩), Value.int IntKind.i64 (k : Int), Value.int IntKind.i64 (k : Int), u6, u7, Value.int IntKind.i64 0, undef, Value.slice (some ⟨w.heap.size + 1, 0, none⟩) 0 0, Value.agg #[Value.slice none 0 0, Value.slice (some ⟨w.heap.size + 1, 0, none⟩) 0 0], Value.pointer (some ⟨p, 0, none⟩), Value.slice (some ⟨w.heap.size + 1 + 1 + 1, 0, none⟩) 7 7, Value.int IntKind.i64 (k : Int), Value.int IntKind.i64 (k : Int), Value.int IntKind.i64 (k : Int), Value.bool false, u18, u19, u20, u21, u22, u23, u24, u25, u26, u27, u28, u29, u30, u31, u32, u33, u34, u35, u36, Value.pointer (some ⟨p, 0, none⟩), Value.int IntKind.i64 (k : Int), Value.int IntKind.i64 (2 * (k : Int)), Value.int IntKind.i64 (2 * (k : Int) + 1), Value.int IntKind.i64 (m0 : Int), Value.int IntKind.i64 0, Value.bool false, u44, u45, u46, u47, u48, u49, u50, u51, u52, u53, u54, u55, u56, u57, u58, u59, u60, u61, u62, u63, u64, u65, u66, u67, u68, u69, u70, u71, u72, u73, u74, u75, u76, u77, u78, u79, u80, u81, u82, u83, u84, Value.pointer (some ⟨p, 0, none⟩), Value.int IntKind.i64 2, Value.bool false, Value.bool false, u89, u90, u91, u92, u93, u94, u95, u96, u97, u98, u99, u100, Value.bool false, Value.bool false, u103, u104, u105, u106, u107, u108, u109, u110, u111, Value.bool true, Value.bool true, bsel (L 0) (.pointer (some ⟨w.heap.size + 1 + 1, 1, none⟩)) (u114), bsel (L 1) (.slice AT l.steps.length cT) (u115), bsel (L 2) (.pointer (some ⟨p, 0, none⟩)) (u116), bsel (L 3) (.int .i64 (k : Int)) (u117), bsel (L 4) (.slice (some ⟨g3, 0, none⟩) 3 3) (u118), bsel (L 5) (.int .i64 x) (u119), bsel (L 6) (.agg #[.int .i64 x, .int .i64 0, .int .i64 0]) (u120), bsel (L 7) (.slice (some ⟨g6, 0, none⟩) 1 1) (u121), bsel (L 8) (v) (u122), bsel (L 9) (.pointer (some ⟨w.heap.size + 1 + 1, 1, none⟩)) (u123), u124, u125, u126, u127, u128, u129, u130, u131, u132, u133, u134, u135, u136, u137, u138, u139, u140, u141, u142, u143, u144], []⟩ ∧ (L 8 = true → L 1 = true) ∧ (L 8 = true → L 7 = true) ∧ (L 7 = true → L 6 = true) ∧ (L 6 = true → L 5 = true) ∧ (L 5 = true → L 4 = true) ∧ AS W0 p (w.heap.size + 1) (w.heap.size + 1 + 1) A bs c (K + 250) (.slice AU l.shows.length cU) (.slice AT l.steps.length cT) l [-1, (k : Int), 40] (x, 0, 0) (L 4) (L 5) (L 7) (L 8) (L 10) g3 g6 v W) ?h0 ?step ?fin
                  case h0 => exact ⟨0, 0, 0, .bool false, rfl, fun h => absurd h Bool.false_ne_true, fun h => absurd h Bool.false_ne_true, fun h => absurd h Bool.false_ne_true, fun h => absurd h Bool.false_ne_true, fun h => absurd h Bool.false_ne_true, AS.start HLD.out _ _ _ _ _⟩
                  case step =>
                    intro L act W q oo hJ hL ho hd K3 hK3
                    obtain ⟨x, g3, g6, v, rfl, hI0, hI1, hI2, hI3, hI4, hF⟩ := hJ
                    match q, ho with
                    | 0, ho =>
                      simp only [List.getElem?_toArray, List.getElem?_cons_zero, List.getElem?_cons_succ, Option.some.injEq] at ho
                      subst ho
                      simp [Region.binds] at hd
                      try simp only [hd, bsel_t]
                      have HF := Lib.hid hF
                      clear hF
                      have HQI0 := Lib.hid hI0
                      clear hI0
                      have HQI1 := Lib.hid hI1
                      clear hI1
                      have HQI2 := Lib.hid hI2
                      clear hI2
                      have HQI3 := Lib.hid hI3
                      clear hI3
                      have HQI4 := Lib.hid hI4
                      clear hI4
                      go_simp
                      exact hK3 _ _ ⟨x, g3, g6, v, by first | (simp [upd, bsel]; done) | simp [upd, bsel, hd], by simpa [upd] using HQI0.out, by simpa [upd] using HQI1.out, by simpa [upd] using HQI2.out, by simpa [upd] using HQI3.out, by simpa [upd] using HQI4.out, HF.out⟩
                    | 1, ho =>
                      simp only [List.getElem?_toArray, List.getElem?_cons_zero, List.getElem?_cons_succ, Option.some.injEq] at ho
                      subst ho
                      simp [Region.binds] at hd
                      have hz0 : L 8 = false := by
                        cases e : L 8
                        · rfl
                        · exact absurd (hI0 e) (by simp [hL])
                      have s0 := cell_of_row W _ 1 _ _ _ (hF.d hz0).box
                      try simp only [hd, bsel_t]
                      have HF := Lib.hid hF
                      clear hF
                      have HQI0 := Lib.hid hI0
                      clear hI0
                      have HQI1 := Lib.hid hI1
                      clear hI1
                      have HQI2 := Lib.hid hI2
                      clear hI2
                      have HQI3 := Lib.hid hI3
                      clear hI3
                      have HQI4 := Lib.hid hI4
                      clear hI4
                      go_simp
                      exact hK3 _ _ ⟨x, g3, g6, v, by simp [upd, bsel, hd, hz0], by simp [upd], by simpa [upd] using HQI1.out, by simpa [upd] using HQI2.out, by simpa [upd] using HQI3.out, by simpa [upd] using HQI4.out, HF.out⟩
                    | 2, ho =>
                      simp only [List.getElem?_toArray, List.getElem?_cons_zero, List.getElem?_cons_succ, Option.some.injEq] at ho
                      subst ho
                      simp [Region.binds] at hd
                      try simp only [hd, bsel_t]
                      have HF := Lib.hid hF
                      clear hF
                      have HQI0 := Lib.hid hI0
                      clear hI0
                      have HQI1 := Lib.hid hI1
                      clear hI1
                      have HQI2 := Lib.hid hI2
                      clear hI2
                      have HQI3 := Lib.hid hI3
                      clear hI3
                      have HQI4 := Lib.hid hI4
                      clear hI4
                      go_simp
                      exact hK3 _ _ ⟨x, g3, g6, v, by first | (simp [upd, bsel]; done) | simp [upd, bsel, hd], by simpa [upd] using HQI0.out, by simpa [upd] using HQI1.out, by simpa [upd] using HQI2.out, by simpa [upd] using HQI3.out, by simpa [upd] using HQI4.out, HF.out⟩
                    | 3, ho =>
                      simp only [List.getElem?_toArray, List.getElem?_cons_zero, List.getElem?_cons_succ, Option.some.injEq] at ho
                      subst ho
                      simp [Region.binds] at hd
                      try simp only [hd, bsel_t]
                      have HF := Lib.hid hF
                      clear hF
                      have HQI0 := Lib.hid hI0
                      clear hI0
                      have HQI1 := Lib.hid hI1
                      clear hI1
                      have HQI2 := Lib.hid hI2
                      clear hI2
                      have HQI3 := Lib.hid hI3
                      clear hI3
                      have HQI4 := Lib.hid hI4
                      clear hI4
                      go_simp
                      exact hK3 _ _ ⟨x, g3, g6, v, by first | (simp [upd, bsel]; done) | simp [upd, bsel, hd], by simpa [upd] using HQI0.out, by simpa [upd] using HQI1.out, by simpa [upd] using HQI2.out, by simpa [upd] using HQI3.out, by simpa [upd] using HQI4.out, HF.out⟩
                    | 4, ho =>
                      simp only [List.getElem?_toArray, List.getElem?_cons_zero, List.getElem?_cons_succ, Option.some.injEq] at ho
                      subst ho
                      simp [Region.binds] at hd
                      have hz4 : L 5 = false := by
                        cases e : L 5
                        · rfl
                        · exact absurd (hI4 e) (by simp [hL])
                      rw [hL] at hF
                      try simp only [hd, bsel_t]
                      have hx := hF.lit3 (by omega)
                      rw [show (ints [-1, (k : Int), 40]).toArray = #[.int .i64 (-1), .int .i64 ((k : Int)), .int .i64 (40)] from rfl] at hx
                      have HF := Lib.hid hx
                      clear hF hx
                      have HQI0 := Lib.hid hI0
                      clear hI0
                      have HQI1 := Lib.hid hI1
                      clear hI1
                      have HQI2 := Lib.hid hI2
                      clear hI2
                      have HQI3 := Lib.hid hI3
                      clear hI3
                      have HQI4 := Lib.hid hI4
                      clear hI4
                      go_simp
                      exact hK3 _ _ ⟨x, W.heap.size, g6, v, by simp [upd, bsel, hd, hz4], by simpa [upd] using HQI0.out, by simpa [upd] using HQI1.out, by simpa [upd] using HQI2.out, by simpa [upd] using HQI3.out, by simp [upd], by simpa [upd, hd] using HF.out⟩
                    | 5, ho =>
                      simp only [List.getElem?_toArray, List.getElem?_cons_zero, List.getElem?_cons_succ, Option.some.injEq] at ho
                      subst ho
                      simp [Region.binds] at hd
                      have hz3 : L 6 = false := by
                        cases e : L 6
                        · rfl
                        · exact absurd (hI3 e) (by simp [hL])
                      have d3 : L 4 = true := by simp [hd]
                      rw [d3, hL] at hF
                      obtain ⟨e6, e7, e9⟩ := hF.q4
                      obtain ⟨h31, h32⟩ := hF.l3 rfl e7
                      have hC : Cur W p A bs c (K + 250) := by simpa using (hF.d e7).cur
                      have h4 := HAM.out W (K + 250) hC (by omega) [-1, (k : Int), 40] g3 3 (by simp) (by simp) h32 (by omega)
                      have H4 := Lib.hid (show Calls Tryz.prog 104 #[.pointer (some ⟨p, 0, none⟩), .slice (some ⟨g3, 0, none⟩) 3 3] W _ from h4)
                      clear h31 h32 hC h4 e6 e7 e9
                      simp only [hd, bsel_t]
                      have HF := Lib.hid hF
                      clear hF
                      have HQI0 := Lib.hid hI0
                      clear hI0
                      have HQI1 := Lib.hid hI1
                      clear hI1
                      have HQI2 := Lib.hid hI2
                      clear hI2
                      have HQI3 := Lib.hid hI3
                      clear hI3
                      have HQI4 := Lib.hid hI4
                      clear hI4
                      go_simp
                      go_at_call 104
                      (with_reducible refine H4.out.mono ?_)
                      rintro e W' ⟨x', rfl, -, hC', hk'⟩
                      have HF := Lib.hid (HF.out.draw (y' := (x', 0, 0)) hpB (Nat.le_succ _) hk' hC')
                      clear hC' hk'
                      go_simp
                      exact hK3 _ _ ⟨x', g3, g6, v, by simp [upd, bsel, hd, hz3], by simpa [upd] using HQI0.out, by simpa [upd] using HQI1.out, by simpa [upd] using HQI2.out, by simp [upd], by simp [upd, hd], by simpa [upd, hd] using HF.out⟩
                    | 6, ho =>
                      simp only [List.getElem?_toArray, List.getElem?_cons_zero, List.getElem?_cons_succ, Option.some.injEq] at ho
                      subst ho
                      simp [Region.binds] at hd
                      have hz2 : L 7 = false := by
                        cases e : L 7
                        · rfl
                        · exact absurd (hI2 e) (by simp [hL])
                      try simp only [hd, bsel_t]
                      have HF := Lib.hid hF
                      clear hF
                      have HQI0 := Lib.hid hI0
                      clear hI0
                      have HQI1 := Lib.hid hI1
                      clear hI1
                      have HQI2 := Lib.hid hI2
                      clear hI2
                      have HQI3 := Lib.hid hI3
                      clear hI3
                      have HQI4 := Lib.hid hI4
                      clear hI4
                      go_simp
                      exact hK3 _ _ ⟨x, g3, g6, v, by simp [upd, bsel, hd, hz2], by simpa [upd] using HQI0.out, by simpa [upd] using HQI1.out, by simp [upd], by simp [upd, hd], by simpa [upd] using HQI4.out, HF.out⟩
                    | 7, ho =>
                      simp only [List.getElem?_toArray, List.getElem?_cons_zero, List.getElem?_cons_succ, Option.some.injEq] at ho
                      subst ho
                      simp [Region.binds] at hd
                      have hz1 : L 8 = false := by
                        cases e : L 8
                        · rfl
                        · exact absurd (hI1 e) (by simp [hL])
                      have d4 : L 5 = true := hI3 (by simp [hd])
                      rw [d4, hL] at hF
                      simp only [hd, bsel_t]
                      have HF := Lib.hid hF.build
                      clear hF
                      have HQI0 := Lib.hid hI0
                      clear hI0
                      have HQI1 := Lib.hid hI1
                      clear hI1
                      have HQI2 := Lib.hid hI2
                      clear hI2
                      have HQI3 := Lib.hid hI3
                      clear hI3
                      have HQI4 := Lib.hid hI4
                      clear hI4
                      go_simp
                      exact hK3 _ _ ⟨x, g3, W.heap.size, v, by first | (simp [upd, bsel, hz1, d4]; done) | simp [upd, bsel, hd, hz1, d4], by simpa [upd] using HQI0.out, by simp [upd], by simp [upd, hd], by simpa [upd] using HQI3.out, by simpa [upd] using HQI4.out, by simpa [upd, d4] using HF.out⟩
                    | 8, ho =>
                      simp only [List.getElem?_toArray, List.getElem?_cons_zero, List.getElem?_cons_succ, Option.some.injEq] at ho
                      subst ho
                      simp [Region.binds] at hd
                      have d6 : L 7 = true := by simp [hd]
                      have d4 : L 5 = true := hI3 (hI2 d6)
                      rw [d4, d6, hL] at hF
                      simp only [hd, bsel_t]
                      have HF := Lib.hid hF
                      clear hF
                      refine step_appG el_a3 rfl (.tmp 115) (.tmp 121) rfl (w.heap.size + 1) (.slice AT l.steps.length cT) l.steps.length (l.steps.flatMap tri) (by rfl) (HF.out.d rfl).S ⟨g6, 0, none⟩ 1 1 (tri (x, 0, 0)) (by rfl) rfl (fun j' u' hj' => by match j', hj' with | 0, hj' | 1, hj' | 2, hj' => (simp [tri] at hj'; subst hj'; exact cell_of_row W g6 _ _ _ _ (HF.out.h6 rfl rfl))) (by intro u' hu'; simp [tri] at hu'; rcases hu' with rfl | rfl | rfl <;> rfl) (by unfold maxLen; omega) (by omega) (by have := (HF.out.d rfl).size; omega) ?_
                      intro v' W' ho hg
                      have HF := Lib.hid (HF.out.app hpB ho hg)
                      clear ho hg
                      have HQI0 := Lib.hid hI0
                      clear hI0
                      have HQI1 := Lib.hid hI1
                      clear hI1
                      have HQI2 := Lib.hid hI2
                      clear hI2
                      have HQI3 := Lib.hid hI3
                      clear hI3
                      have HQI4 := Lib.hid hI4
                      clear hI4
                      go_simp
                      exact hK3 _ _ ⟨x, g3, g6, v', by first | (simp [upd, bsel]; done) | simp [upd, bsel, hd], by simp [upd, hd], by simp [upd, hd], by simpa [upd] using HQI2.out, by simpa [upd] using HQI3.out, by simpa [upd] using HQI4.out, by simpa [upd, d4, d6] using HF.out⟩
                    | 9, ho =>
                      simp only [List.getElem?_toArray, List.getElem?_cons_zero, List.getElem?_cons_succ, Option.some.injEq] at ho
                      subst ho
                      simp [Region.binds] at hd
                      try simp only [hd, bsel_t]
                      have HF := Lib.hid hF
                      clear hF
                      have HQI0 := Lib.hid hI0
                      clear hI0
                      have HQI1 := Lib.hid hI1
                      clear hI1
                      have HQI2 := Lib.hid hI2
                      clear hI2
                      have HQI3 := Lib.hid hI3
                      clear hI3
                      have HQI4 := Lib.hid hI4
                      clear hI4
                      go_simp
                      exact hK3 _ _ ⟨x, g3, g6, v, by first | (simp [upd, bsel]; done) | simp [upd, bsel, hd], by simpa [upd] using HQI0.out, by simpa [upd] using HQI1.out, by simpa [upd] using HQI2.out, by simpa [upd] using HQI3.out, by simpa [upd] using HQI4.out, HF.out⟩
                    | 10, ho =>
                      simp only [List.getElem?_toArray, List.getElem?_cons_zero, List.getElem?_cons_succ, Option.some.injEq] at ho
                      subst ho
                      simp [Region.binds] at hd
                      have d7 : L 8 = true := by simp [hd]
                      rw [d7, hL] at hF
                      obtain ⟨h1, h2, h3, h4, h5⟩ := hF.k rfl rfl
                      obtain ⟨A', c', rfl, _⟩ := owns_form h5
                      have s0 := cell_of_row W _ 1 _ _ _ h3
                      have s1 := frozen_of_row W _ 1 _ _ h3
                      clear h1 h2 h3 h4 h5
                      simp only [hd, bsel_t]
                      have HF := Lib.hid (hF.store hpB (Nat.le_succ _))
                      clear hF
                      have HQI0 := Lib.hid hI0
                      clear hI0
                      have HQI1 := Lib.hid hI1
                      clear hI1
                      have HQI2 := Lib.hid hI2
                      clear hI2
                      have HQI3 := Lib.hid hI3
                      clear hI3
                      have HQI4 := Lib.hid hI4
                      clear hI4
                      go_simp
                      exact hK3 _ _ ⟨x, g3, g6, .slice A' (l.steps ++ [(x, 0, 0)]).length c', by simp [upd, bsel, hd], by simpa [upd] using HQI0.out, by simpa [upd] using HQI1.out, by simpa [upd] using HQI2.out, by simpa [upd] using HQI3.out, by simpa [upd] using HQI4.out, by simpa [upd, hd] using HF.out⟩
                    | q + 11, ho => simp at ho
                  case fin =>
                    intro L act W hJ hfin
                    obtain ⟨x, g3, g6, v, rfl, hI0, hI1, hI2, hI3, hI4, hF⟩ := hJ
                    have l0 : L 0 = true := by
                      cases e : L 0
                      · have x := hfin 0 _ rfl e
                        simp [Region.binds] at x
                      · rfl
                    have l1 : L 1 = true := by
                      cases e : L 1
                      · have x := hfin 1 _ rfl e
                        simp [Region.binds, l0] at x
                      · rfl
                    have l2 : L 2 = true := by
                      cases e : L 2
                      · have x := hfin 2 _ rfl e
                        simp [Region.binds, l0, l1] at x
                      · rfl
                    have l3 : L 3 = true := by
                      cases e : L 3
                      · have x := hfin 3 _ rfl e
                        simp [Region.binds, l0, l1, l2] at x
                      · rfl
                    have l4 : L 4 = true := by
                      cases e : L 4
                      · have x := hfin 4 _ rfl e
                        simp [Region.binds, l0, l1, l2, l3] at x
                      · rfl
                    have l5 : L 5 = true := by
                      cases e : L 5
                      · have x := hfin 5 _ rfl e
                        simp [Region.binds, l0, l1, l2, l3, l4] at x
                      · rfl
                    have l6 : L 6 = true := by
                      cases e : L 6
                      · have x := hfin 6 _ rfl e
                        simp [Region.binds, l0, l1, l2, l3, l4, l5] at x
                      · rfl
                    have l7 : L 7 = true := by
                      cases e : L 7
                      · have x := hfin 7 _ rfl e
                        simp [Region.binds, l0, l1, l2, l3, l4, l5, l6] at x
                      · rfl
                    have l8 : L 8 = true := by
                      cases e : L 8
                      · have x := hfin 8 _ rfl e
                        simp [Region.binds, l0, l1, l2, l3, l4, l5, l6, l7] at x
                      · rfl
                    have l9 : L 9 = true := by
                      cases e : L 9
                      · have x := hfin 9 _ rfl e
                        simp [Region.binds, l0, l1, l2, l3, l4, l5, l6, l7, l8] at x
                      · rfl
                    have l10 : L 10 = true := by
                      cases e : L 10
                      · have x := hfin 10 _ rfl e
                        simp [Region.binds, l0, l1, l2, l3, l4, l5, l6, l7, l8, l9] at x
                      · rfl
                    simp only [l0, l1, l2, l3, l4, l5, l6, l7, l8, l9, l10, bsel_t]
                    have hf := hF.f l10
                    have HLF := Lib.hid hf
                    clear hF hf hfin hI0 hI1 hI2 hI3 hI4 l0 l1 l2 l3 l4 l5 l6 l7 l8 l9 l10
                    go_wp2_with fail
                    go_meet
                    case rel => exact ⟨_, _, ⟨l.shows, l.steps ++ [(x, 0, 0)]⟩, HLF.out.lx (by omega) ⟨by show l.shows.length ≤ 60; omega, fun xs h => Nat.le_trans (hr2' xs h) (by decide), by show (l.steps ++ [(x, 0, 0)]).length ≤ 100; simp; omega⟩⟩
                have e2 : (y == 2) = false := by simpa using y2
                by_cases y3 : y = 3
                · subst y3
                  have HP := Lib.hid (HPI.out 2 _ w6 (by omega) HLD.out.cur (by omega))
                  go_wp2_with fail
                  (with_reducible refine HP.out.mono ?_)
                  rintro e w7 ⟨x, rfl, hx0, hx1, hC7, hK7⟩
                  obtain ⟨x', rfl⟩ := Int.eq_ofNat_of_zero_le hx0
                  have hx2 : x' ≤ 1 := by have := hx1 (by omega); omega
                  have HL7 := Lib.hid ((HLD.out.draw hpB (Nat.le_succ _) hK7 hC7).mono (K' := K + 252) (by omega))
                  clear hx0 hx1 hC7 hK7 HP
                  go_wp2_with fail
                  go_loopw [] (fun wr => ∃ (u : Value) (rows2 : List (List Int)), LD W0 p (w.heap.size + 1) (w.heap.size + 1 + 1) A bs c (K + 252) u (.slice AT l.steps.length cT) ⟨rows2, l.steps⟩ wr ∧ rows2.length ≤ 42 ∧ ∀ xs ∈ rows2, xs.length ≤ 2)
                    (fun wr => 42 - lenBox (w.heap.size + 1 + 1) wr)
                  case atStart => exact ⟨_, l.shows, HL7.out, by omega, hr2'⟩
                  case round =>
                    clear HL7
                    obtain ⟨u, rows2, hL, hr42, hrr⟩ := hrel
                    obtain ⟨AU2, cU2, rfl⟩ := hL.formU
                    have HLR := Lib.hid hL
                    have hsr := hL.size
                    have s0 := cell_of_row wr _ 0 _ _ _ hL.box
                    by_cases hlt : rows2.length < 40 + x'
                    · have hlt' : (rows2.length : Int) < 40 + (x' : Int) := by omega
                      have hb1 := (Below.refl wr.heap.size wr).alloc (Nat.le_refl _) (.cells #[] 3)
                      have HRW := Lib.hid (made_row wr 3)
                      obtain ⟨vs, a1, a2, a3, a4⟩ := hL.T.tb.kept (Kept.of_below hb1 (fun _ => False)) (fun q h => h.elim)
                      have HL1 := Lib.hid (hL.lay hb1)
                      have HA1 := Lib.hid (show (wr.alloc (.cells #[] 3)).ownsRow (w.heap.size + 1) 30 1 (.slice AU2 rows2.length cU2) rows2.length vs from a1)
                      have hsz1 : (wr.alloc (.cells #[] 3)).heap.size = wr.heap.size + 1 := by simp
                      have HA2 := Lib.hid a2
                      have HA3 := Lib.hid a3
                      have HA4 := Lib.hid a4
                      clear hL hb1 a1 a2 a3 a4
                      go_wp2_with (at_builtin; refine wpList_app el_ints rfl _ _ rfl (w.heap.size + 1) _ _ _ rfl HA1.out [.slice (some ⟨wr.heap.size, 0, none⟩) 0 0] rfl (by first | rfl | exact hsz1) rfl (one1 rfl) (by omega) (by omega) ?_; intro v3 w3 ho3 hk3 hm3; obtain ⟨A3, c3, rfl, _⟩ := owns_form ho3; obtain ⟨g1, g2, g3, g4⟩ := HL1.out.grownU hpB HA1.out hk3; have s1 := cell_of_row w3 _ 0 _ _ _ g3; have s2 := frozen_of_row w3 _ 0 _ _ g3; clear s0)
                      have hT3 := TRows.pushK (rows := rows2) (x := []) HA1.out HA2.out HA3.out HA4.out HRW.out (by omega) ho3 hk3
                      have hL3 := LD.shows' g1 g2 g3 g4 hpB (Nat.le_succ _) hT3
                      have HL3 := Lib.hid hL3
                      clear ho3 hk3 hm3 g1 g2 g3 g4 hT3 hL3
                      go_roundw
                      case rel => exact ⟨_, rows2 ++ [[]], HL3.out, by rw [List.length_append]; simp; omega, fun y hy => by
                        rcases List.mem_append.1 hy with hy | hy
                        · exact hrr y hy
                        · simp at hy; rw [hy]; simp⟩
                      case measure => rw [HL3.out.len, HLR.out.len]; simp; omega
                    · have hlt' : ¬ (rows2.length : Int) < 40 + (x' : Int) := by omega
                      clear hL
                      go_wp2_with fail
                      go_meet
                      case rel => exact ⟨_, _, ⟨rows2, l.steps⟩, HLR.out.lx (by omega) ⟨by show rows2.length ≤ 60; omega, fun xs h => Nat.le_trans (hrr xs h) (by decide), Nat.le_trans hs40 (by decide)⟩⟩
                have e3 : (y == 3) = false := by simpa using y3
                by_cases y4 : y = 4
                · subst y4
                  have hbx := HLD.out.box
                  have hb := (Below.refl w6.heap.size w6).alloc (Nat.le_refl _) (.cells #[] 30)
                  have hbx2 := (hb.block _ (Array.getElem?_eq_some_iff.1 hbx).1).trans hbx
                  have s0 := cell_of_row _ _ 0 _ _ _ hbx2
                  have f0 := frozen_of_row _ _ 0 _ _ hbx2
                  have HEND := Lib.hid ((LD.shows (rows := []) (v := .slice (some ⟨w6.heap.size, 0, none⟩) 0 0) (HLD.out.lay hb) hpB (Nat.le_succ _) ⟨[], owns_mono (made_row w6 30) (by omega), fun i v xs h => by simp at h, fun i j v v' b _ h => by simp at h⟩).lx (K' := K + 900) (by omega) ⟨by simp, fun xs h => by simp at h, Nat.le_trans hs40 (by decide)⟩)
                  clear hbx hb hbx2
                  go_wp2_with fail
                  go_meet
                  case rel => exact ⟨_, _, _, HEND.out⟩
                have e4 : (y == 4) = false := by simpa using y4
                go_wp2_with fail
                go_meet
                case rel => exact ⟨_, _, l, HLD.out.lx (by omega) ⟨by omega, fun xs h => Nat.le_trans (hr2' xs h) (by decide), by omega⟩⟩
              case rest =>
                obtain ⟨u, t, l, hX⟩ := hcut
                obtain ⟨AU, cU, rfl⟩ := hX.formU
                obtain ⟨AT, cT, rfl⟩ := hX.formT
                have s0 := cell_of_row wc _ 0 _ _ _ hX.box
                have s1 := cell_of_row wc _ 1 _ _ _ hX.box
                have hr0 := HR0.out wc hX.k
                have f0 := frozen_of_row wc _ 0 _ _ hr0
                have f1 := frozen_of_row wc _ 1 _ _ hr0
                have g0 := cell_of_row wc _ 0 _ _ _ hr0
                have g1 := cell_of_row wc _ 1 _ _ _ hr0
                have HX := Lib.hid hX
                clear hX hr0 HLD
                go_wp2_with fail
                have hX := HX.out
                have hend := heap_setCell_same (wc.setCell ⟨w.heap.size, 0, none⟩ (.slice AU l.shows.length cU)) w.heap.size 1 _ _ (.slice AT l.steps.length cT) (heap_setCell_same wc w.heap.size 0 _ _ (.slice AU l.shows.length cU) (HR0.out wc hX.k))
                (try simp only [Exit.inBlock, Exit.then])
                refine bodyPost_ret (results_cell_row rfl _ _ w.heap.size _ #[.slice AU l.shows.length cU, .slice AT l.steps.length cT] _ _ rfl hend Tryz.underlying27 rfl (by kernel_rfl)) rfl ?_
                have hKK := ((Kept.refl (fun q => q = w.heap.size) wc).setCell (S := fun q => q = w.heap.size) (p := ⟨w.heap.size, 0, none⟩) rfl (.slice AU l.shows.length cU)).setCell (S := fun q => q = w.heap.size) (p := ⟨w.heap.size, 1, none⟩) rfl (.slice AT l.steps.length cT)
                refine ⟨_, _, rfl, ⟨l, hX.z, (hX.T.keptG hKK (fun q hq => by omega)).low (by omega), owns_mono (owns_keptG hX.S hKK (fun q hq => by omega)) (by omega)⟩, (hX.cur.kept hKK (fun q hq => by omega)).mono (by omega), ?_⟩
                exact ((Kept.of_below HB0.out (fun q => q = p ∨ w.heap.size ≤ q)).trans ((hX.k.mono fun q hq => by omega).trans (hKK.mono fun q hq => by omega))).shrink (fun q h1 h2 => by omega)
        | succ m =>
          have hbox := hL.box
          have HPN := Lib.hid (fun K1 W (hC : Cur W p A bs c K1) (hK1 : K1 ≤ 20000000000000) => HPI.out k K1 W (by omega) hC hK1)
          have HP2 := Lib.hid (fun K1 W (hC : Cur W p A bs c K1) (hK1 : K1 ≤ 20000000000000) => HPI.out 2 K1 W (by omega) hC hK1)
          obtain ⟨KK, hKK⟩ : ∃ KK, KK = K + 40 + 6 * (17 - (m + 1)) := ⟨_, rfl⟩
          have hK2 : KK ≤ 15000000000000 := by omega
          have hK3 : K + 40 + 6 * (17 - m) = KK + 6 := by omega
          rw [← hKK] at HLD
          clear hL hbox hKK
          go_wp2_with fail
          refine wp_region_inv (by kernel_rfl) (fun L act W => ∃ (x4 x6 x9 : Int) (v : Value), act = ⟨#[Value.pointer (some ⟨p, 0, none⟩), undef, Value.pointer (some ⟨w.heap.size, 0, none⟩), Value.pointer (some ⟨w.heap.size + 1 + 1, 0, none⟩), Value.int IntKind.i64 (k : Int), Value.int IntKind.i64 (k : Int), u6, u7, Value.int IntKind.i64 ((m + 1 : Nat) : Int), undef, Value.slice (some ⟨w.heap.size + 1, 0, none⟩) 0 0, Value.agg #[Value.slice none 0 0, Value.slice (some ⟨w.heap.size + 1, 0, none⟩) 0 0], Value.pointer (some ⟨p, 0, none⟩), Value.slice (some ⟨w.heap.size + 1 + 1 + 1, 0, none⟩) 7 7, Value.int IntKind.i64 (k : Int), Value.int IntKind.i64 (k : Int), Value.int IntKind.i64 (k : Int), Value.bool false, u18, u19, u20, u21, u22, u23, u24, u25, u26, u27, u28, u29, u30, u31, u32, u33, u34, u35, u36, Value.pointer (some ⟨p, 0, none⟩), Value.int IntKind.i64 (k : Int), Value.int IntKind.i64 (2 * (k : Int)), Value.int IntKind.i64 (2 * (k : Int) + 1), Value.int IntKind.i64 (m0 : Int), Value.int IntKind.i64 ((m + 1 : Nat) : Int), Value.bool true, u44, u45, bsel (L 0) (.pointer (some ⟨w.heap.size + 1 + 1, 1, none⟩)) (u46), bsel (L 1) (.slice (some ⟨gt, 0, none⟩) ss.length ct) (u47), bsel (L 2) (.pointer (some ⟨p, 0, none⟩)) (u48), bsel (L 3) (.int .i64 (k : Int)) (u49), bsel (L 4) (.int .i64 x4) (u50), bsel (L 5) (.pointer (some ⟨p, 0, none⟩)) (u51), bsel (L 6) (.int .i64 x6) (u52), bsel (L 7) (.pointer (some ⟨p, 0, none⟩)) (u53), bsel (L 8) (.int .i64 (k : Int)) (u54), bsel (L 9) (.int .i64 x9) (u55), bsel (L 10) (.agg #[.int .i64 x4, .int .i64 x6, .int .i64 x9]) (u56), bsel (L 11) (v) (u57), bsel (L 12) (.pointer (some ⟨w.heap.size + 1 + 1, 1, none⟩)) (u58), undef, undef, undef, undef, undef, undef, undef, undef, undef, undef, undef, undef, undef, undef, undef, undef, undef, undef, undef, undef, undef, undef, undef, undef, undef, undef, undef, undef, undef, undef, undef, undef, undef, undef, undef, undef, undef, undef, undef, undef, undef, undef, undef, undef, undef, undef, undef, undef, undef, undef, undef, undef, undef, undef, undef, undef, undef, undef, undef, undef, undef, undef, undef, undef, undef, undef, undef, undef, undef, undef, undef, undef, undef, undef, undef, undef, undef, undef, undef, undef, undef, undef, undef, undef, undef, undef], []⟩ ∧ (L 11 = true → L 1 = true) ∧ (L 11 = true → L 10 = true) ∧ (L 10 = true → L 4 = true) ∧ (L 10 = true → L 6 = true) ∧ (L 10 = true → L 9 = true) ∧ DS W0 p (w.heap.size + 1) (w.heap.size + 1 + 1) A bs c KK u (.slice (some ⟨gt, 0, none⟩) ss.length ct) ⟨rows, ss⟩ (x4, x6, x9) (L 4) (L 6) (L 9) (L 11) (L 13) v W) ?h0 ?step ?fin
          case h0 => exact ⟨0, 0, 0, .bool false, rfl, fun h => absurd h Bool.false_ne_true, fun h => absurd h Bool.false_ne_true, fun h => absurd h Bool.false_ne_true, fun h => absurd h Bool.false_ne_true, fun h => absurd h Bool.false_ne_true, DS.start HLD.out _ _⟩
          case step =>
            intro L act W q oo hJ hL ho hd K3 hK3
            obtain ⟨x4, x6, x9, v, rfl, hI0, hI1, hI2, hI3, hI4, hF⟩ := hJ
            match q, ho with
            | 0, ho =>
              simp only [List.getElem?_toArray, List.getElem?_cons_zero, List.getElem?_cons_succ, Option.some.injEq] at ho
              subst ho
              simp [Region.binds] at hd
              try simp only [hd, bsel_t]
              have HF := Lib.hid hF
              clear hF
              have HQI0 := Lib.hid hI0
              clear hI0
              have HQI1 := Lib.hid hI1
              clear hI1
              have HQI2 := Lib.hid hI2
              clear hI2
              have HQI3 := Lib.hid hI3
              clear hI3
              have HQI4 := Lib.hid hI4
              clear hI4
              go_simp
              exact hK3 _ _ ⟨x4, x6, x9, v, by first | (simp [upd, bsel]; done) | simp [upd, bsel, hd], by simpa [upd] using HQI0.out, by simpa [upd] using HQI1.out, by simpa [upd] using HQI2.out, by simpa [upd] using HQI3.out, by simpa [upd] using HQI4.out, HF.out⟩
            | 1, ho =>
              simp only [List.getElem?_toArray, List.getElem?_cons_zero, List.getElem?_cons_succ, Option.some.injEq] at ho
              subst ho
              simp [Region.binds] at hd
              have hz0 : L 11 = false := by
                cases e : L 11
                · rfl
                · exact absurd (hI0 e) (by simp [hL])
              have s0 := cell_of_row W _ 1 _ _ _ (hF.d hz0).box
              try simp only [hd, bsel_t]
              have HF := Lib.hid hF
              clear hF
              have HQI0 := Lib.hid hI0
              clear hI0
              have HQI1 := Lib.hid hI1
              clear hI1
              have HQI2 := Lib.hid hI2
              clear hI2
              have HQI3 := Lib.hid hI3
              clear hI3
              have HQI4 := Lib.hid hI4
              clear hI4
              go_simp
              exact hK3 _ _ ⟨x4, x6, x9, v, by simp [upd, bsel, hd, hz0], by simp [upd], by simpa [upd] using HQI1.out, by simpa [upd] using HQI2.out, by simpa [upd] using HQI3.out, by simpa [upd] using HQI4.out, HF.out⟩
            | 2, ho =>
              simp only [List.getElem?_toArray, List.getElem?_cons_zero, List.getElem?_cons_succ, Option.some.injEq] at ho
              subst ho
              simp [Region.binds] at hd
              try simp only [hd, bsel_t]
              have HF := Lib.hid hF
              clear hF
              have HQI0 := Lib.hid hI0
              clear hI0
              have HQI1 := Lib.hid hI1
              clear hI1
              have HQI2 := Lib.hid hI2
              clear hI2
              have HQI3 := Lib.hid hI3
              clear hI3
              have HQI4 := Lib.hid hI4
              clear hI4
              go_simp
              exact hK3 _ _ ⟨x4, x6, x9, v, by first | (simp [upd, bsel]; done) | simp [upd, bsel, hd], by simpa [upd] using HQI0.out, by simpa [upd] using HQI1.out, by simpa [upd] using HQI2.out, by simpa [upd] using HQI3.out, by simpa [upd] using HQI4.out, HF.out⟩
            | 3, ho =>
              simp only [List.getElem?_toArray, List.getElem?_cons_zero, List.getElem?_cons_succ, Option.some.injEq] at ho
              subst ho
              simp [Region.binds] at hd
              try simp only [hd, bsel_t]
              have HF := Lib.hid hF
              clear hF
              have HQI0 := Lib.hid hI0
              clear hI0
              have HQI1 := Lib.hid hI1
              clear hI1
              have HQI2 := Lib.hid hI2
              clear hI2
              have HQI3 := Lib.hid hI3
              clear hI3
              have HQI4 := Lib.hid hI4
              clear hI4
              go_simp
              exact hK3 _ _ ⟨x4, x6, x9, v, by first | (simp [upd, bsel]; done) | simp [upd, bsel, hd], by simpa [upd] using HQI0.out, by simpa [upd] using HQI1.out, by simpa [upd] using HQI2.out, by simpa [upd] using HQI3.out, by simpa [upd] using HQI4.out, HF.out⟩
            | 4, ho =>
              simp only [List.getElem?_toArray, List.getElem?_cons_zero, List.getElem?_cons_succ, Option.some.injEq] at ho
              subst ho
              simp [Region.binds] at hd
              have hz2 : L 10 = false := by
                cases e : L 10
                · rfl
                · exact absurd (hI2 e) (by simp [hL])
              have E11 := Lib.hid (show L 11 = false from Bool.eq_false_iff.2 fun e => absurd (hI1 e) (by simp [hz2]))
              rw [hL] at hF
              simp only [hd, bsel_t]
              have HF := Lib.hid hF
              clear hF
              have HQI0 := Lib.hid hI0
              clear hI0
              have HQI1 := Lib.hid hI1
              clear hI1
              have HQI2 := Lib.hid hI2
              clear hI2
              have HQI3 := Lib.hid hI3
              clear hI3
              have HQI4 := Lib.hid hI4
              clear hI4
              go_simp
              go_at_call 102
              (with_reducible refine (HPN.out _ W (HF.out.d E11.out).cur (by have a1 := Bool.toNat_le (L 6); have a2 := Bool.toNat_le (L 9); have a3 := Bool.toNat_le false; omega)).mono ?_)
              rintro e W' ⟨x', rfl, -, -, hC', hk'⟩
              have HF := Lib.hid (HF.out.draw4 (y' := (x', x6, x9)) E11.out hpB (Nat.le_succ _) hk' (by simpa using hC'))
              clear hC' hk'
              go_simp
              exact hK3 _ _ ⟨x', x6, x9, v, by simp [upd, bsel, hd, hz2], by simpa [upd] using HQI0.out, by simpa [upd] using HQI1.out, by simp [upd], by simpa [upd] using HQI3.out, by simpa [upd] using HQI4.out, by simpa [upd, hd] using HF.out⟩
            | 5, ho =>
              simp only [List.getElem?_toArray, List.getElem?_cons_zero, List.getElem?_cons_succ, Option.some.injEq] at ho
              subst ho
              simp [Region.binds] at hd
              try simp only [hd, bsel_t]
              have HF := Lib.hid hF
              clear hF
              have HQI0 := Lib.hid hI0
              clear hI0
              have HQI1 := Lib.hid hI1
              clear hI1
              have HQI2 := Lib.hid hI2
              clear hI2
              have HQI3 := Lib.hid hI3
              clear hI3
              have HQI4 := Lib.hid hI4
              clear hI4
              go_simp
              exact hK3 _ _ ⟨x4, x6, x9, v, by first | (simp [upd, bsel]; done) | simp [upd, bsel, hd], by simpa [upd] using HQI0.out, by simpa [upd] using HQI1.out, by simpa [upd] using HQI2.out, by simpa [upd] using HQI3.out, by simpa [upd] using HQI4.out, HF.out⟩
            | 6, ho =>
              simp only [List.getElem?_toArray, List.getElem?_cons_zero, List.getElem?_cons_succ, Option.some.injEq] at ho
              subst ho
              simp [Region.binds] at hd
              have hz3 : L 10 = false := by
                cases e : L 10
                · rfl
                · exact absurd (hI3 e) (by simp [hL])
              have E11 := Lib.hid (show L 11 = false from Bool.eq_false_iff.2 fun e => absurd (hI1 e) (by simp [hz3]))
              rw [hL] at hF
              simp only [hd, bsel_t]
              have HF := Lib.hid hF
              clear hF
              have HQI0 := Lib.hid hI0
              clear hI0
              have HQI1 := Lib.hid hI1
              clear hI1
              have HQI2 := Lib.hid hI2
              clear hI2
              have HQI3 := Lib.hid hI3
              clear hI3
              have HQI4 := Lib.hid hI4
              clear hI4
              go_simp
              go_at_call 102
              (with_reducible refine (HP2.out _ W (HF.out.d E11.out).cur (by have a1 := Bool.toNat_le (L 4); have a2 := Bool.toNat_le (L 9); have a3 := Bool.toNat_le false; omega)).mono ?_)
              rintro e W' ⟨x', rfl, -, -, hC', hk'⟩
              have HF := Lib.hid (HF.out.draw6 (y' := (x4, x', x9)) E11.out hpB (Nat.le_succ _) hk' (by simpa using hC'))
              clear hC' hk'
              go_simp
              exact hK3 _ _ ⟨x4, x', x9, v, by simp [upd, bsel, hd, hz3], by simpa [upd] using HQI0.out, by simpa [upd] using HQI1.out, by simpa [upd] using HQI2.out, by simp [upd], by simpa [upd] using HQI4.out, by simpa [upd, hd] using HF.out⟩
            | 7, ho =>
              simp only [List.getElem?_toArray, List.getElem?_cons_zero, List.getElem?_cons_succ, Option.some.injEq] at ho
              subst ho
              simp [Region.binds] at hd
              try simp only [hd, bsel_t]
              have HF := Lib.hid hF
              clear hF
              have HQI0 := Lib.hid hI0
              clear hI0
              have HQI1 := Lib.hid hI1
              clear hI1
              have HQI2 := Lib.hid hI2
              clear hI2
              have HQI3 := Lib.hid hI3
              clear hI3
              have HQI4 := Lib.hid hI4
              clear hI4
              go_simp
              exact hK3 _ _ ⟨x4, x6, x9, v, by first | (simp [upd, bsel]; done) | simp [upd, bsel, hd], by simpa [upd] using HQI0.out, by simpa [upd] using HQI1.out, by simpa [upd] using HQI2.out, by simpa [upd] using HQI3.out, by simpa [upd] using HQI4.out, HF.out⟩
            | 8, ho =>
              simp only [List.getElem?_toArray, List.getElem?_cons_zero, List.getElem?_cons_succ, Option.some.injEq] at ho
              subst ho
              simp [Region.binds] at hd
              try simp only [hd, bsel_t]
              have HF := Lib.hid hF
              clear hF
              have HQI0 := Lib.hid hI0
              clear hI0
              have HQI1 := Lib.hid hI1
              clear hI1
              have HQI2 := Lib.hid hI2
              clear hI2
              have HQI3 := Lib.hid hI3
              clear hI3
              have HQI4 := Lib.hid hI4
              clear hI4
              go_simp
              exact hK3 _ _ ⟨x4, x6, x9, v, by first | (simp [upd, bsel]; done) | simp [upd, bsel, hd], by simpa [upd] using HQI0.out, by simpa [upd] using HQI1.out, by simpa [upd] using HQI2.out, by simpa [upd] using HQI3.out, by simpa [upd] using HQI4.out, HF.out⟩
            | 9, ho =>
              simp only [List.getElem?_toArray, List.getElem?_cons_zero, List.getElem?_cons_succ, Option.some.injEq] at ho
              subst ho
              simp [Region.binds] at hd
              have hz4 : L 10 = false := by
                cases e : L 10
                · rfl
                · exact absurd (hI4 e) (by simp [hL])
              have E11 := Lib.hid (show L 11 = false from Bool.eq_false_iff.2 fun e => absurd (hI1 e) (by simp [hz4]))
              rw [hL] at hF
              simp only [hd, bsel_t]
              have HF := Lib.hid hF
              clear hF
              have HQI0 := Lib.hid hI0
              clear hI0
              have HQI1 := Lib.hid hI1
              clear hI1
              have HQI2 := Lib.hid hI2
              clear hI2
              have HQI3 := Lib.hid hI3
              clear hI3
              have HQI4 := Lib.hid hI4
              clear hI4
              go_simp
              go_at_call 102
              (with_reducible refine (HPN.out _ W (HF.out.d E11.out).cur (by have a1 := Bool.toNat_le (L 4); have a2 := Bool.toNat_le (L 6); have a3 := Bool.toNat_le false; omega)).mono ?_)
              rintro e W' ⟨x', rfl, -, -, hC', hk'⟩
              have HF := Lib.hid (HF.out.draw9 (y' := (x4, x6, x')) E11.out hpB (Nat.le_succ _) hk' (by simpa using hC'))
              clear hC' hk'
              go_simp
              exact hK3 _ _ ⟨x4, x6, x', v, by simp [upd, bsel, hd, hz4], by simpa [upd] using HQI0.out, by simpa [upd] using HQI1.out, by simpa [upd] using HQI2.out, by simpa [upd] using HQI3.out, by simp [upd], by simpa [upd, hd] using HF.out⟩
            | 10, ho =>
              simp only [List.getElem?_toArray, List.getElem?_cons_zero, List.getElem?_cons_succ, Option.some.injEq] at ho
              subst ho
              simp [Region.binds] at hd
              have hz1 : L 11 = false := by
                cases e : L 11
                · rfl
                · exact absurd (hI1 e) (by simp [hL])
              try simp only [hd, bsel_t]
              have HF := Lib.hid hF
              clear hF
              have HQI0 := Lib.hid hI0
              clear hI0
              have HQI1 := Lib.hid hI1
              clear hI1
              have HQI2 := Lib.hid hI2
              clear hI2
              have HQI3 := Lib.hid hI3
              clear hI3
              have HQI4 := Lib.hid hI4
              clear hI4
              go_simp
              exact hK3 _ _ ⟨x4, x6, x9, v, by simp [upd, bsel, hd, hz1], by simpa [upd] using HQI0.out, by simp [upd], by simp [upd, hd], by simp [upd, hd], by simp [upd, hd], HF.out⟩
            | 11, ho =>
              simp only [List.getElem?_toArray, List.getElem?_cons_zero, List.getElem?_cons_succ, Option.some.injEq] at ho
              subst ho
              simp [Region.binds] at hd
              rw [hL] at hF
              have hS := (hF.d rfl).S
              have hz := (hF.d rfl).size
              simp only [hd, bsel_t]
              have HF := Lib.hid hF
              clear hF
              have HQI0 := Lib.hid hI0
              clear hI0
              have HQI1 := Lib.hid hI1
              clear hI1
              have HQI2 := Lib.hid hI2
              clear hI2
              have HQI3 := Lib.hid hI3
              clear hI3
              have HQI4 := Lib.hid hI4
              clear hI4
              go_simp
              go_at_call 92
              (with_reducible refine (l10PutG_any gt ct ss (x4, x6, x9) W (by omega) hct (Cells.of_owns hS)).mono ?_)
              rintro e W' ⟨r, rfl, hr, hb⟩
              have HF := Lib.hid (HF.out.put hb (put_ownG hr hb hS (by omega)))
              clear hr hb hS
              go_simp
              exact hK3 _ _ ⟨x4, x6, x9, r, by simp [upd, bsel, hd], by simp [upd, hd], by simp [upd, hd], by simpa [upd] using HQI2.out, by simpa [upd] using HQI3.out, by simpa [upd] using HQI4.out, by simpa [upd, hd] using HF.out⟩
            | 12, ho =>
              simp only [List.getElem?_toArray, List.getElem?_cons_zero, List.getElem?_cons_succ, Option.some.injEq] at ho
              subst ho
              simp [Region.binds] at hd
              try simp only [hd, bsel_t]
              have HF := Lib.hid hF
              clear hF
              have HQI0 := Lib.hid hI0
              clear hI0
              have HQI1 := Lib.hid hI1
              clear hI1
              have HQI2 := Lib.hid hI2
              clear hI2
              have HQI3 := Lib.hid hI3
              clear hI3
              have HQI4 := Lib.hid hI4
              clear hI4
              go_simp
              exact hK3 _ _ ⟨x4, x6, x9, v, by first | (simp [upd, bsel]; done) | simp [upd, bsel, hd], by simpa [upd] using HQI0.out, by simpa [upd] using HQI1.out, by simpa [upd] using HQI2.out, by simpa [upd] using HQI3.out, by simpa [upd] using HQI4.out, HF.out⟩
            | 13, ho =>
              simp only [List.getElem?_toArray, List.getElem?_cons_zero, List.getElem?_cons_succ, Option.some.injEq] at ho
              subst ho
              simp [Region.binds] at hd
              have d11 : L 11 = true := by simp [hd]
              rw [d11, hL] at hF
              obtain ⟨g', c', rfl, hc'⟩ := put_formG (hF.e rfl rfl).2
              have s0 := cell_of_row W _ 1 _ _ _ (hF.e rfl rfl).1.box
              have s1 := frozen_of_row W _ 1 _ _ (hF.e rfl rfl).1.box
              simp only [hd, bsel_t]
              have HF := Lib.hid (hF.store hpB (Nat.le_succ _))
              clear hF
              have HQI0 := Lib.hid hI0
              clear hI0
              have HQI1 := Lib.hid hI1
              clear hI1
              have HQI2 := Lib.hid hI2
              clear hI2
              have HQI3 := Lib.hid hI3
              clear hI3
              have HQI4 := Lib.hid hI4
              clear hI4
              go_simp
              exact hK3 _ _ ⟨x4, x6, x9, .slice (some ⟨g', 0, none⟩) (putG ss (x4, x6, x9)).length c', by simp [upd, bsel, hd], by simpa [upd] using HQI0.out, by simpa [upd] using HQI1.out, by simpa [upd] using HQI2.out, by simpa [upd] using HQI3.out, by simpa [upd] using HQI4.out, by simpa [upd, hd] using HF.out⟩
            | q + 14, ho => simp at ho
          case fin =>
            intro L act W hJ hfin
            obtain ⟨x4, x6, x9, v, rfl, hI0, hI1, hI2, hI3, hI4, hF⟩ := hJ
            have l0 : L 0 = true := by
              cases e : L 0
              · have x := hfin 0 _ rfl e
                simp [Region.binds] at x
              · rfl
            have l1 : L 1 = true := by
              cases e : L 1
              · have x := hfin 1 _ rfl e
                simp [Region.binds, l0] at x
              · rfl
            have l2 : L 2 = true := by
              cases e : L 2
              · have x := hfin 2 _ rfl e
                simp [Region.binds, l0, l1] at x
              · rfl
            have l3 : L 3 = true := by
              cases e : L 3
              · have x := hfin 3 _ rfl e
                simp [Region.binds, l0, l1, l2] at x
              · rfl
            have l4 : L 4 = true := by
              cases e : L 4
              · have x := hfin 4 _ rfl e
                simp [Region.binds, l0, l1, l2, l3] at x
              · rfl
            have l5 : L 5 = true := by
              cases e : L 5
              · have x := hfin 5 _ rfl e
                simp [Region.binds, l0, l1, l2, l3, l4] at x
              · rfl
            have l6 : L 6 = true := by
              cases e : L 6
              · have x := hfin 6 _ rfl e
                simp [Region.binds, l0, l1, l2, l3, l4, l5] at x
              · rfl
            have l7 : L 7 = true := by
              cases e : L 7
              · have x := hfin 7 _ rfl e
                simp [Region.binds, l0, l1, l2, l3, l4, l5, l6] at x
              · rfl
            have l8 : L 8 = true := by
              cases e : L 8
              · have x := hfin 8 _ rfl e
                simp [Region.binds, l0, l1, l2, l3, l4, l5, l6, l7] at x
              · rfl
            have l9 : L 9 = true := by
              cases e : L 9
              · have x := hfin 9 _ rfl e
                simp [Region.binds, l0, l1, l2, l3, l4, l5, l6, l7, l8] at x
              · rfl
            have l10 : L 10 = true := by
              cases e : L 10
              · have x := hfin 10 _ rfl e
                simp [Region.binds, l0, l1, l2, l3, l4, l5, l6, l7, l8, l9] at x
              · rfl
            have l11 : L 11 = true := by
              cases e : L 11
              · have x := hfin 11 _ rfl e
                simp [Region.binds, l0, l1, l2, l3, l4, l5, l6, l7, l8, l9, l10] at x
              · rfl
            have l12 : L 12 = true := by
              cases e : L 12
              · have x := hfin 12 _ rfl e
                simp [Region.binds, l0, l1, l2, l3, l4, l5, l6, l7, l8, l9, l10, l11] at x
              · rfl
            have l13 : L 13 = true := by
              cases e : L 13
              · have x := hfin 13 _ rfl e
                simp [Region.binds, l0, l1, l2, l3, l4, l5, l6, l7, l8, l9, l10, l11, l12] at x
              · rfl
            simp only [l0, l1, l2, l3, l4, l5, l6, l7, l8, l9, l10, l11, l12, l13, bsel_t]
            have hf := hF.f l13
            obtain ⟨g', c', rfl, hc'⟩ := put_formG hf.S
            have hlen := putG_len ss (x4, x6, x9)
            have HLF := Lib.hid hf
            clear hF hf hfin hI0 hI1 hI2 hI3 hI4 l0 l1 l2 l3 l4 l5 l6 l7 l8 l9 l10 l11 l12 l13
            go_wp2_with fail
            go_roundw
            case rel => exact ⟨m, .slice (some ⟨g', 0, none⟩) (putG ss (x4, x6, x9)).length c', putG ss (x4, x6, x9), by omega, by go_num, by rw [hK3]; exact HLF.out, by omega, _, _, rfl, hc'⟩
            case measure => simp [intOf]

end Go.Proofs.YtdgnhfhaaghoaaaGreatDoor
