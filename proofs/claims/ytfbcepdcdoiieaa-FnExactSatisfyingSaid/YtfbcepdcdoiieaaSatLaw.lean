/- The law that program and reference list the same states for a formula, walked. -/
import Derived.Test.YtfbcepdcdoiieaaProg
import Derived.Test.YtfbcepdcdoiieaaSatL
import Derived.Test.YtfbcepdcdoiieaaHas
set_option linter.unusedVariables false
namespace Go.Proofs.Ytfbcepdcdoiieaa
open Go.RowKit

theorem sat_small {l : Lab} (hs : l.shows.length ≤ 16777216) (f : List Int) : (satS l f).length ≤ 16777216 := by
  unfold satS
  split
  · exact Nat.le_trans (which_len _ _) hs
  · simp

theorem kept_cell {S : Nat → Prop} {w w' : World} {p : Addr} {u : Value} (hk : Kept S w w') (h : w.cell? p = some u) (hn : ¬ S p.block) : w'.cell? p = some u :=
  (World.cell?_of_block (hk.block _ (lt_of_cell h) hn)).trans h

theorem size_pos (l : Lab) : 0 ≤ sizeLab l := by unfold sizeLab; omega
theorem size_small {l : Lab} (h : ¬ szLab l 1048576 < 0) : sizeLab l ≤ 4194304 := by
  unfold sizeLab total
  unfold szLab at h
  split at h
  · omega
  · rename_i hl
    unfold szRow at h
    split at h
    · omega
    · rename_i hr
      unfold szSS at hl hr
      split at hl
      · omega
      · rename_i h1
        rw [if_neg h1] at hr
        have hs := szRows_sum (l.shows.map List.length) (1048576 - l.shows.length) (by omega) (by omega)
        omega

set_option maxRecDepth 100000 in
set_option maxHeartbeats 4000000 in
theorem lawSatisfying (v : Value) (l : Lab) (A : Option Addr) (c : Nat) (f : List Int) (w : World) (hv : RLab w v l) (hA : Cells w A (ints f)) :
    Calls Try.prog 5 #[v, .slice A f.length c] w fun e w' => e = .returned (.bool true) ∧ Below w.heap.size w w' := by
  have hb1 : ∀ o, Below w.heap.size w (w.alloc o) := fun o => (Below.refl _ _).alloc (Nat.le_refl _) o
  have HSZ := Lib.hid (fun o => szLabelled_any v l 1048576 (w.alloc o) (by omega) (by omega) (hv.below (hb1 o)))
  have HV := Lib.hid (show ∀ W, Below w.heap.size w W → RLab W v l from fun W hb => hv.below hb)
  have HA := Lib.hid (show ∀ W, Below w.heap.size w W → Cells W A (ints f) from fun W hb => hA.below hb)
  obtain ⟨sv, tv, rfl, _, _⟩ := hv
  have HB1 := Lib.hid hb1
  clear hb1 hA
  by_cases hl : (1048576 : Int) < (f.length : Int)
  · go_enter Try.func5, Try.ntmps5
    go_wp2_with fail
    go_ret
    exact ⟨rfl, HB1.out _⟩
  have hfl : f.length ≤ 1048576 := by omega
  go_enter Try.func5, Try.ntmps5
  go_wp2_with fail
  refine (HSZ.out _).mono ?_
  rintro e w1 ⟨rfl, hw1⟩
  obtain ⟨bx, hlt1⟩ := one_box hw1
  have x0 : w1.cell? ⟨w.heap.size, 0, none⟩ = some sv := cell_of_row _ _ _ _ _ _ bx
  have x1 : w1.cell? ⟨w.heap.size, 1, none⟩ = some tv := cell_of_row _ _ _ _ _ _ bx
  have hz1 := (HB1.out _).trans (hw1.mono (HB1.out _).size)
  have HZ1 := Lib.hid hz1
  clear bx hw1 hz1
  by_cases hneg : szLab l 1048576 < 0
  · go_wp2_with fail
    go_ret
    exact ⟨rfl, HZ1.out⟩
  · obtain ⟨hs, _, _⟩ := szLab_small (by omega) (by omega) hneg
    have HS := Lib.hid hs
    have hs' := hs.1
    clear hs
    go_wp2_with fail
    refine (toLabelled_any _ l w1 (HV.out w1 HZ1.out) HS.out).mono ?_
    rintro e w2 ⟨u2, rfl, hu2, hw2⟩
    have hz2 := HZ1.out.trans (hw2.mono HZ1.out.size)
    go_wp2_with fail
    refine (toIntS_any A c f w2 (by omega) (HA.out w2 hz2)).mono ?_
    rintro e w3 ⟨v3, rfl, hv3, hw3⟩
    obtain ⟨A3, c3, rfl, hv3⟩ := owns_form hv3
    have hu23 := hu2.below hw3 (Nat.le_refl _)
    go_wp2_with fail
    refine (specSatisfying_any u2 l A3 c3 f w3 HS.out (hu23.rlab HS.out) hfl (.of_owns hv3)).mono ?_
    rintro e w4 ⟨v4, rfl, hv4, hw4⟩
    obtain ⟨A4, c4, rfl, hv4⟩ := owns_form hv4
    have h14 := hw2.trans ((hw3.trans (hw4.mono hw3.size)).mono hw2.size)
    have hs1_4 := h14.size
    have y0 := cell_below h14 x0 (lt_of_cell x0)
    have y1 := cell_below h14 x1 (lt_of_cell x1)
    have HZ4 := Lib.hid (HZ1.out.trans (h14.mono HZ1.out.size))
    have HO4 := Lib.hid (show Own w4 (fun b => w.heap.size ≤ b ∧ b < w4.heap.size) (.slice A4 (satS l f).length c4) (satS l f).length (ints (satS l f)) from (Own.of_owns hv4).mono (fun b hb => ⟨Nat.le_trans (Nat.le_trans HZ1.out.size hw2.size) (Nat.le_trans hw3.size (hv4.lt b hb).1), (hv4.lt b hb).2⟩))
    clear x0 x1 hz2 hw2 hw3 hw4 h14 hu2 hu23 hv3 hv4
    go_wp2_with fail
    refine (toLabelled_any _ l w4 (HV.out w4 HZ4.out) HS.out).mono ?_
    rintro e w5 ⟨u5, rfl, hu5, hw5⟩
    obtain ⟨A5, c5, B5, d5, rfl⟩ := hu5.form
    have z0 := cell_below hw5 y0 (lt_of_cell y0)
    have z1 := cell_below hw5 y1 (lt_of_cell y1)
    have HU5 := Lib.hid hu5
    have HW5 := Lib.hid hw5
    have HZ5 := Lib.hid (HZ4.out.trans (hw5.mono HZ4.out.size))
    clear y0 y1 hu5 hw5
    go_wp2_with fail
    have hba : Below w5.heap.size w5 (w5.alloc (.cells #[.slice A5 l.shows.length c5, .slice B5 l.steps.length d5] 32)) := (Below.refl _ _).alloc (Nat.le_refl _) _
    refine (toIntS_any A c f _ (by omega) (HA.out _ (HZ5.out.trans (hba.mono HZ5.out.size)))).mono ?_
    rintro e w6 ⟨v6, rfl, hv6, hw6⟩
    obtain ⟨A6, c6, rfl, hv6⟩ := owns_form hv6
    obtain ⟨bx, hlt6⟩ := one_box hw6
    have q0 : w6.cell? ⟨w5.heap.size, 0, none⟩ = some (.slice A5 l.shows.length c5) := cell_of_row _ _ _ _ _ _ bx
    have q1 : w6.cell? ⟨w5.heap.size, 1, none⟩ = some (.slice B5 l.steps.length d5) := cell_of_row _ _ _ _ _ _ bx
    have h56 := hba.trans (hw6.mono hba.size)
    have p0 := cell_below h56 z0 (lt_of_cell z0)
    have p1 := cell_below h56 z1 (lt_of_cell z1)
    have HU6 := Lib.hid (HU5.out.below h56 (Nat.le_refl _))
    have HZ6 := Lib.hid (HZ5.out.trans (h56.mono HZ5.out.size))
    have hO6 : Own w6 (fun b => w5.heap.size < b ∧ b < w6.heap.size) (.slice A6 f.length c6) f.length (ints f) := (Own.of_owns hv6).mono (fun b hb => by have := hv6.lt b hb; simp at this; omega)
    have HO6 := Lib.hid hO6
    have HO46 := Lib.hid ((HO4.out.below HW5.out (Nat.le_refl _)).below h56 (Nat.le_refl _))
    have hs45 := HW5.out.size
    have hs04 := HZ4.out.size
    have HC6 := Lib.hid (show Cells w6 A6 (ints f) from .of_owns hv6)
    clear bx hba hw6 h56 z0 z1 hv6 hO6
    go_wp2_with fail
    refine (implSatisfying_any _ l A6 c6 f w6 HS.out (HU6.out.rlab HS.out) hfl HC6.out).mono ?_
    rintro e w7 ⟨v7, rfl, hv7, hw7⟩
    obtain ⟨A7, c7, rfl, hv7⟩ := owns_form hv7
    have hs67 := hw7.size
    have r0 := cell_below hw7 p0 (lt_of_cell p0)
    have r1 := cell_below hw7 p1 (lt_of_cell p1)
    have s0 := cell_below hw7 q0 (lt_of_cell q0)
    have s1 := cell_below hw7 q1 (lt_of_cell q1)
    have HU7 := Lib.hid (HU6.out.below hw7 (Nat.le_refl _))
    have HO67 := Lib.hid (HO6.out.below hw7 (Nat.le_refl _))
    have HO47 := Lib.hid (HO46.out.below hw7 (Nat.le_refl _))
    have HO7 := Lib.hid (show Own w7 (fun b => w6.heap.size ≤ b ∧ b < w7.heap.size) (.slice A7 (satS l f).length c7) (satS l f).length (ints (satS l f)) from (Own.of_owns hv7).mono (fun b hb => hv7.lt b hb))
    have HZ7 := Lib.hid (HZ6.out.trans (hw7.mono HZ6.out.size))
    clear p0 p1 q0 q1 hw7 hv7
    have hne : (okS l f != okS l f) = false := by rw [bne_self_eq_false]
    have hres : (satS l f).length ≤ 16777216 := sat_small hs' f
    have HSM := Lib.hid (sameI_refl (satS l f))
    have HIMP := Lib.hid (fun u A c W (hu : RLab W u l) (hA : Cells W A (ints f)) => implSatisfying_any u l A c f W HS.out hu hfl hA)
    generalize okS l f = ok at *
    generalize satS l f = res at *
    go_wp2_with fail
    obtain ⟨A7', c7', e7, hc7⟩ := HO7.out.cells
    cases e7
    obtain ⟨A4', c4', e4, hc4⟩ := HO47.out.cells
    cases e4
    refine (eqIntS_any A7 A4 c7 c4 res res w7 hres hres hc7 hc4).mono ?_
    rintro e w8 ⟨rfl, hw8⟩
    rw [HSM.out]
    clear hc7 hc4
    go_wp2_with fail
    have k0 := cell_below hw8 s0 (lt_of_cell s0)
    have k1 := cell_below hw8 s1 (lt_of_cell s1)
    have j0 := cell_below hw8 r0 (lt_of_cell r0)
    have j1 := cell_below hw8 r1 (lt_of_cell r1)
    have HU8 := Lib.hid (HU7.out.below hw8 (Nat.le_refl _))
    have HO68 := Lib.hid (HO67.out.below hw8 (Nat.le_refl _))
    have HO48 := Lib.hid (HO47.out.below hw8 (Nat.le_refl _))
    have HO8 := Lib.hid (HO7.out.below hw8 (Nat.le_refl _))
    have HZ8 := Lib.hid (HZ7.out.trans (hw8.mono HZ7.out.size))
    have HR8 := Lib.hid (HU8.out.rlab HS.out)
    have hs78 := hw8.size
    clear r0 r1 s0 s1 hw8
    go_region_held3 (fun w' => w'.cell? ⟨w5.heap.size, 0, none⟩ = some (.slice A5 l.shows.length c5) ∧ w'.cell? ⟨w5.heap.size, 1, none⟩ = some (.slice B5 l.steps.length d5) ∧ w'.cell? ⟨w.heap.size, 0, none⟩ = some sv ∧ w'.cell? ⟨w.heap.size, 1, none⟩ = some tv)
      (first | go_keep | (have hk := hw9.trans (hw10.mono hw9.size); exact ⟨cell_below hk k0 (lt_of_cell k0), cell_below hk k1 (lt_of_cell k1), cell_below hk j0 (lt_of_cell j0), cell_below hk j1 (lt_of_cell j1)⟩) | exact ⟨cell_below hw9 k0 (lt_of_cell k0), cell_below hw9 k1 (lt_of_cell k1), cell_below hw9 j0 (lt_of_cell j0), cell_below hw9 j1 (lt_of_cell j1)⟩)
      (first
        | (go_at_call 15; refine (toLabelled_any _ l _ (HV.out _ HZ8.out.drew) HS.out).mono ?_; rintro e w9 ⟨u9, rfl, hu9, hw9⟩)
        | (go_at_call 17; refine (eqLabelled_any _ _ l l _ (HR8.out.drew.below hw9) (hu9.rlab HS.out) HS.out HS.out).mono ?_; rintro e w10 ⟨rfl, hw10⟩))
    have hsl := sameLab_refl l
    simp only [hsl, Bool.not_true]
    have h8 : Below w8.heap.size w8 w10 := (Below.refl _ w8).drew.trans (hw9.trans (hw10.mono hw9.size))
    have k0 := cell_below h8 k0 (lt_of_cell k0)
    have k1 := cell_below h8 k1 (lt_of_cell k1)
    have j0 := cell_below h8 j0 (lt_of_cell j0)
    have j1 := cell_below h8 j1 (lt_of_cell j1)
    have HUa := Lib.hid (HU8.out.below h8 (Nat.le_refl _))
    have HO6a := Lib.hid (HO68.out.below h8 (Nat.le_refl _))
    have HO4a := Lib.hid (HO48.out.below h8 (Nat.le_refl _))
    have HOa := Lib.hid (HO8.out.below h8 (Nat.le_refl _))
    have HZa := Lib.hid (HZ8.out.trans (h8.mono HZ8.out.size))
    have hs8a := h8.size
    clear hw9 hw10 hu9 h8
    go_wp2_with fail
    refine (toIntS_any A c f w10 (by omega) (HA.out w10 HZa.out)).mono ?_
    rintro e w11 ⟨v11, rfl, hv11, hw11⟩
    obtain ⟨A11, c11, rfl, hv11⟩ := owns_form hv11
    obtain ⟨A6', c6', e6, hc6⟩ := (HO6a.out.below hw11 (Nat.le_refl _)).cells
    cases e6
    go_wp2_with fail
    refine (eqIntS_any A6 A11 c6 c11 f f w11 (by omega) (by omega) hc6 (.of_owns hv11)).mono ?_
    rintro e w12 ⟨rfl, hw12⟩
    have hsf := sameI_refl f
    simp only [hsf]
    have ha12 := hw11.trans (hw12.mono hw11.size)
    have k0 := cell_below ha12 k0 (lt_of_cell k0)
    have k1 := cell_below ha12 k1 (lt_of_cell k1)
    have j0 := cell_below ha12 j0 (lt_of_cell j0)
    have j1 := cell_below ha12 j1 (lt_of_cell j1)
    have HUb := Lib.hid (HUa.out.below ha12 (Nat.le_refl _))
    have HO6b := Lib.hid (HO6a.out.below ha12 (Nat.le_refl _))
    have HO4b := Lib.hid (HO4a.out.below ha12 (Nat.le_refl _))
    have HOb := Lib.hid (HOa.out.below ha12 (Nat.le_refl _))
    have HZb := Lib.hid (HZa.out.trans (ha12.mono HZa.out.size))
    have hsab := ha12.size
    clear hw11 hw12 ha12 hc6 hv11
    go_wp2_with fail
    have hsl1 := size_small (l := l) (by omega)
    have hsl0 := size_pos l
    have HM := Lib.hid (markLabelled_any _ _ l 1 w12 HS.out (by decide) (by omega) HUb.out)
    refine HM.out.mono ?_
    rintro e w13 ⟨rfl, hu13, hk13⟩
    have hs13 := hk13.size
    have k0 := kept_cell hk13 k0 (by intro h; have := h.2; dsimp only at this; omega)
    have k1 := kept_cell hk13 k1 (by intro h; have := h.2; dsimp only at this; omega)
    have j0 := kept_cell hk13 j0 (by intro h; have := h.1; dsimp only at this; omega)
    have j1 := kept_cell hk13 j1 (by intro h; have := h.1; dsimp only at this; omega)
    have HO6c := Lib.hid (HO6b.out.kept hk13 (fun b h1 h2 => by omega))
    have HO4c := Lib.hid (HO4b.out.kept hk13 (fun b h1 h2 => by omega))
    have HOc := Lib.hid (HOb.out.kept hk13 (fun b h1 h2 => by omega))
    have HZc := Lib.hid (HZb.out.trans (hk13.below (B := w.heap.size) (fun b hb => by omega) (by omega)))
    clear hk13 hu13
    go_wp2_with fail
    refine (markIntS_any _ _ f _ w13 (by omega) (by omega) (by omega) HO6c.out).mono ?_
    rintro e w14 ⟨rfl, hu14, hk14⟩
    have hs14 := hk14.size
    have k0 := kept_cell hk14 k0 (by intro h; have := h.1; dsimp only at this; omega)
    have k1 := kept_cell hk14 k1 (by intro h; have := h.1; dsimp only at this; omega)
    have j0 := kept_cell hk14 j0 (by intro h; have := h.1; dsimp only at this; omega)
    have j1 := kept_cell hk14 j1 (by intro h; have := h.1; dsimp only at this; omega)
    have HO4d := Lib.hid (HO4c.out.kept hk14 (fun b h1 h2 => by omega))
    have HOd := Lib.hid (HOc.out.kept hk14 (fun b h1 h2 => by omega))
    have HZd := Lib.hid (HZc.out.trans (hk14.below (B := w.heap.size) (fun b hb => by omega) (by omega)))
    clear hk14 hu14
    have hkp : ¬ (1 + sizeLab l + (f.length : Int) < 0) := by omega
    go_wp2_with fail
    obtain ⟨A7', c7', e7, hc7⟩ := HOd.out.cells
    cases e7
    obtain ⟨A4', c4', e4, hc4⟩ := HO4d.out.cells
    cases e4
    refine (eqIntS_any A7 A4 c7 c4 res res w14 hres hres hc7 hc4).mono ?_
    rintro e w15 ⟨rfl, hw15⟩
    rw [HSM.out]
    have hs15 := hw15.size
    have j0 := cell_below hw15 j0 (lt_of_cell j0)
    have j1 := cell_below hw15 j1 (lt_of_cell j1)
    have HO4e := Lib.hid (HO4d.out.below hw15 (Nat.le_refl _))
    have HOe := Lib.hid (HOd.out.below hw15 (Nat.le_refl _))
    have HZe := Lib.hid (HZd.out.trans (hw15.mono HZd.out.size))
    clear hc7 hc4 hw15 k0 k1
    go_wp2_with fail
    refine (markIntS_any _ _ res 1 w15 hres (by decide) (by decide) HOe.out).mono ?_
    rintro e w16 ⟨rfl, hu16, hk16⟩
    have hs16 := hk16.size
    have j0 := kept_cell hk16 j0 (by intro h; have := h.1; dsimp only at this; omega)
    have j1 := kept_cell hk16 j1 (by intro h; have := h.1; dsimp only at this; omega)
    have HO4f := Lib.hid (HO4e.out.kept hk16 (fun b h1 h2 => by omega))
    have HZf := Lib.hid (HZe.out.trans (hk16.below (B := w.heap.size) (fun b hb => by omega) (by omega)))
    obtain ⟨A7', c7', e7, hc7⟩ := hu16.cells
    cases e7
    have HC7 := Lib.hid hc7
    clear hk16 hu16 hc7
    go_wp2_with fail
    refine (heldIntS_any A7 c7 res.length 1 w16 hres (by decide) (by decide) HC7.out).mono ?_
    rintro e w16' ⟨rfl, rfl⟩
    go_wp2_with fail
    refine (toLabelled_any _ l w16 (HV.out w16 HZf.out) HS.out).mono ?_
    rintro e w17 ⟨u17, rfl, hu17, hw17⟩
    have hz17 := HZf.out.trans (hw17.mono HZf.out.size)
    go_wp2_with fail
    refine (toIntS_any A c f w17 (by omega) (HA.out w17 hz17)).mono ?_
    rintro e w18 ⟨v18, rfl, hv18, hw18⟩
    obtain ⟨A18, c18, rfl, hv18⟩ := owns_form hv18
    have hu18 := hu17.below hw18 (Nat.le_refl _)
    go_wp2_with fail
    refine (HIMP.out u17 A18 c18 w18 (hu18.rlab HS.out) (.of_owns hv18)).mono ?_
    rintro e w19 ⟨v19, rfl, hv19, hw19⟩
    obtain ⟨A19, c19, rfl, hv19⟩ := owns_form hv19
    have h69 := hw17.trans ((hw18.trans (hw19.mono hw18.size)).mono hw17.size)
    have HC79 := Lib.hid (HC7.out.below h69)
    obtain ⟨A4', c4', e4, hc4⟩ := (HO4f.out.below h69 (Nat.le_refl _)).cells
    cases e4
    have HZ19 := Lib.hid (HZf.out.trans (h69.mono HZf.out.size))
    clear hw17 hw18 hw19 h69 hu17 hu18 hv18 hz17 j0 j1
    go_wp2_with fail
    refine (eqIntS_any A19 A4 c19 c4 res res w19 hres hres (.of_owns hv19) hc4).mono ?_
    rintro e w20 ⟨rfl, hw20⟩
    rw [HSM.out]
    have HC70 := Lib.hid (HC79.out.below hw20)
    have HZ20 := Lib.hid (HZ19.out.trans (hw20.mono HZ19.out.size))
    clear hw20 hc4 hv19
    go_wp2_with fail
    refine (heldIntS_any A7 c7 res.length 1 w20 hres (by decide) (by decide) HC70.out).mono ?_
    rintro e w20' ⟨rfl, rfl⟩
    go_wp2_with fail
    go_ret
    exact ⟨rfl, HZ20.out⟩

end Go.Proofs.Ytfbcepdcdoiieaa
