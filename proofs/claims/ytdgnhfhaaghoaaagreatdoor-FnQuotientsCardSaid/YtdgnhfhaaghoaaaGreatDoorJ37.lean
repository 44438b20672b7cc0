/- A drawn labelled system, as what reads it wants it. Labelled systems joined: the reference's UnionOf walked. -/
import Derived.Test.YtdgnhfhaaghoaaaGreatDoorProg
import Derived.Test.YtdgnhfhaaghoaaaGreatDoorJ36
import Derived.Test.YtdgnhfhaaghoaaaGreatDoorJ2
import Derived.Test.YtdgnhfhaaghoaaaGreatDoorJ30
import Derived.Test.YtdgnhfhaaghoaaaGreatDoorJ24
set_option linter.unusedSimpArgs false
set_option linter.unusedVariables false
namespace Go.Proofs.YtdgnhfhaaghoaaaGreatDoor
open Go.RowKit

theorem DSz.small {l : Lab} (h : DSz l) : SmallLab l := ⟨by have := h.a; omega, by have := h.c; omega, fun xs hx => by have := h.b xs hx; omega⟩
theorem LRows.rss {w : World} {B : Nat} {u : Value} {l : List (List Int)} (h : LRows w B u l) (hn : l.length ≤ 16777216) (hs : ∀ xs ∈ l, xs.length ≤ 16777216) : RSS w u l := by
  obtain ⟨vs, a, b⟩ := h
  obtain ⟨A, c, rfl, _⟩ := owns_form a
  refine ⟨A, c, vs, rfl, by unfold maxLen; omega, by have := a.1; omega, Cells.of_owns a, fun i v xs hv hx => ?_⟩
  have h1 := b i v xs hv hx
  obtain ⟨A', c', rfl, _⟩ := owns_form h1
  have := hs xs (List.mem_of_getElem? hx)
  exact ⟨A', c', rfl, by unfold maxLen; omega, Cells.of_owns h1⟩
/-- A drawn system is one that can be read, and is small. -/
theorem DLab.rlab {w w' : World} {u t : Value} (h : DLab w w' u t) : ∃ l : Lab, SmallLab l ∧ DSz l ∧ RLab w' (.agg #[u, t]) l := by
  obtain ⟨l, hz, hT, hS⟩ := h
  refine ⟨l, hz.small, hz, u, t, rfl, hT.rss (by have := hz.a; omega) (fun xs hx => by have := hz.b xs hx; omega), ?_⟩
  obtain ⟨A, c, rfl, _⟩ := owns_form hS
  exact ⟨A, c, rfl, by have := hz.c; unfold maxLen; omega, Cells.of_owns hS⟩
theorem DLab.low {w w0 w' : World} {u t : Value} (h : DLab w0 w' u t) (hs : w.heap.size ≤ w0.heap.size) : DLab w w' u t := by
  obtain ⟨l, hz, hT, hS⟩ := h
  exact ⟨l, hz, hT.low hs, owns_mono hS hs⟩
theorem DLab.kept {w w1 w2 : World} {u t : Value} {S : Nat → Prop} (h : DLab w w1 u t) (hk : Kept S w1 w2) (hS : ∀ q, S q → q < w.heap.size) : DLab w w2 u t := by
  obtain ⟨l, hz, hT, hO⟩ := h
  exact ⟨l, hz, hT.keptG hk hS, owns_keptG hO hk hS⟩
theorem DLab.form {w w1 : World} {u t : Value} (h : DLab w w1 u t) : ∃ A n c B m d, u = .slice A n c ∧ t = .slice B m d := by
  obtain ⟨l, hz, ⟨vs, a, _⟩, hO⟩ := h
  obtain ⟨A, c, rfl, _⟩ := owns_form a
  obtain ⟨B, d, rfl, _⟩ := owns_form hO
  exact ⟨A, _, c, B, _, d, rfl, rfl⟩
/-- A labelled system stored into a box. -/
theorem box_put {W : World} {P : Nat} {a b : Value} {ty : TypeId} (u t : Value) (h : W.heap[P]? = some (.cells #[a, b] ty)) :
    ((W.setCell ⟨P, 0, none⟩ u).setCell ⟨P, 1, none⟩ t).heap[P]? = some (.cells #[u, t] ty) ∧ Kept (fun q => q = P) W ((W.setCell ⟨P, 0, none⟩ u).setCell ⟨P, 1, none⟩ t) :=
  ⟨heap_setCell_same (W.setCell ⟨P, 0, none⟩ u) P 1 _ _ t (heap_setCell_same W P 0 _ _ u h), ((Kept.refl (fun q => q = P) W).setCell (S := fun q => q = P) (p := ⟨P, 0, none⟩) rfl u).setCell (S := fun q => q = P) (p := ⟨P, 1, none⟩) rfl t⟩

end Go.Proofs.YtdgnhfhaaghoaaaGreatDoor

set_option linter.unusedVariables false
namespace Go.Proofs.YtdgnhfhaaghoaaaGreatDoor
open Go.RowKit

def okU (a b : Lab) : Bool := goodLab a && goodLab b && decide (a.shows.length + b.shows.length ≤ 40)
def unionR (a b : Lab) : Lab := if okU a b then uniL a b else ⟨[], []⟩
theorem goodLab_one {l : Lab} (h : goodLab l = true) : 1 ≤ l.shows.length := by
  unfold goodLab inB at h
  simp at h
  omega

theorem OwnLab.mono {w : World} {S T : Nat → Prop} {v : Value} {l : Lab} (h : OwnLab w S v l) (hs : ∀ b, S b → T b) : OwnLab w T v l := by
  obtain ⟨u, t, S1, S2, a1, a2, a3, a4, a5, a6⟩ := h
  exact ⟨u, t, S1, S2, a1, a2, a3, fun b hb => hs b (a4 b hb), fun b hb => hs b (a5 b hb), a6⟩

theorem OwnLab.formU {w : World} {S : Nat → Prop} {v : Value} {a b : Lab} (h : OwnLab w S v (uniL a b)) : ∃ B1 d1 B2 d2, v = .agg #[.slice B1 (a.shows.length + b.shows.length) d1, .slice B2 (a.steps.length + b.steps.length) d2] := by
  obtain ⟨sv, tv, S1, S2, rfl, h1, h2, _⟩ := h
  obtain ⟨A, c, rfl⟩ := h1.form
  obtain ⟨B, d, rfl, _⟩ := h2
  exact ⟨A, c, B, d, by simp [uniL]⟩

theorem box_cells {W : World} {p : Nat} {x y : Value} {t : TypeId} (h : W.heap[p]? = some (.cells #[x, y] t)) : W.cell? ⟨p, 0, none⟩ = some x ∧ W.cell? ⟨p, 1, none⟩ = some y ∧ W.frozen? ⟨p, 0, none⟩ = false ∧ W.frozen? ⟨p, 1, none⟩ = false :=
  ⟨cell_of_row _ _ 0 _ _ _ h, cell_of_row _ _ 1 _ _ _ h, frozen_of_row _ _ 0 _ _ h, frozen_of_row _ _ 1 _ _ h⟩

set_option maxRecDepth 100000 in
set_option maxHeartbeats 4000000 in
theorem specUnionOf_any (v u : Value) (a b : Lab) (w : World) (ha : SmallLab a) (hsb : SmallLab b) (hv : RLab w v a) (hu : RLab w u b) :
    Calls Tryz.prog 40 #[v, u] w fun e w' => ∃ r, e = .returned (.tuple #[r, .bool (okU a b)]) ∧ OwnLab w' (fun b => w.heap.size ≤ b ∧ b < w'.heap.size) r (unionR a b) ∧ Below w.heap.size w w' := by
  have HGA := Lib.hid (fun W (hb : Below w.heap.size w W) => l11Good_any v a W ha (hv.below hb))
  have HGB := Lib.hid (fun W (hb : Below w.heap.size w W) => l11Good_any u b W hsb (hu.below hb))
  have HU := Lib.hid (fun W (hb : Below w.heap.size w W) h1 h2 h3 => l11Union_any v u a b W ha hsb h1 h2 h3 (hv.below hb) (hu.below hb))
  obtain ⟨sv, tv, rfl, hsv, htv⟩ := hv
  obtain ⟨su, tu, rfl, hsu, htu⟩ := hu
  obtain ⟨A1, c1, vs1, rfl, _, _, _, _⟩ := hsv
  obtain ⟨A2, c2, rfl, _, _⟩ := htv
  obtain ⟨A3, c3, vs3, rfl, _, _, _, _⟩ := hsu
  obtain ⟨A4, c4, rfl, _, _⟩ := htu
  have has := ha.1
  have hbs := hsb.1
  have hb3 : ∀ o1 o2 o3, Below w.heap.size w (((w.alloc o1).alloc o2).alloc o3) := fun o1 o2 o3 => (((Below.refl _ _).alloc (Nat.le_refl _) o1).alloc (by simp) o2).alloc (by simp; omega) o3
  go_enter Tryz.func40, Tryz.ntmps40
  go_wp2_with fail
  obtain ⟨W0, hW0⟩ : ∃ W0, W0 = ((w.alloc (.cells #[.slice A1 a.shows.length c1, .slice A2 a.steps.length c2] 27)).alloc (.cells #[.slice A3 b.shows.length c3, .slice A4 b.steps.length c4] 27)).alloc (.cells #[.slice none 0 0, .slice none 0 0] 27) := ⟨_, rfl⟩
  have hz : Below w.heap.size w W0 := by rw [hW0]; exact hb3 _ _ _
  have hsz0 : W0.heap.size = w.heap.size + 1 + 1 + 1 := by rw [hW0]; simp
  have hbx := three_boxes (w := w) (o1 := .cells #[.slice A1 a.shows.length c1, .slice A2 a.steps.length c2] 27) (o2 := .cells #[.slice A3 b.shows.length c3, .slice A4 b.steps.length c4] 27) (o3 := .cells #[.slice none 0 0, .slice none 0 0] 27) (Below.refl _ _)
  rw [← hW0] at hbx ⊢
  obtain ⟨bx0, bx1, bx2, _⟩ := hbx
  have HX := Lib.hid (show ∀ W, Below W0.heap.size W0 W → W.heap[w.heap.size]? = some (.cells #[.slice A1 a.shows.length c1, .slice A2 a.steps.length c2] 27) ∧ W.heap[w.heap.size + 1]? = some (.cells #[.slice A3 b.shows.length c3, .slice A4 b.steps.length c4] 27) ∧ W.heap[w.heap.size + 1 + 1]? = some (.cells #[.slice none 0 0, .slice none 0 0] 27) from fun W hW => ⟨(hW.block _ (by omega)).trans bx0, (hW.block _ (by omega)).trans bx1, (hW.block _ (by omega)).trans bx2⟩)
  have HE := Lib.hid (fun W (hW : Below W0.heap.size W0 W) => show OwnLab ((W.setCell ⟨w.heap.size + 1 + 1, 0, none⟩ (.slice none 0 0)).setCell ⟨w.heap.size + 1 + 1, 1, none⟩ (.slice none 0 0)) (fun b => w.heap.size ≤ b ∧ b < ((W.setCell ⟨w.heap.size + 1 + 1, 0, none⟩ (.slice none 0 0)).setCell ⟨w.heap.size + 1 + 1, 1, none⟩ (.slice none 0 0)).heap.size) (.agg #[.slice none 0 0, .slice none 0 0]) ⟨[], []⟩ ∧ Below w.heap.size w ((W.setCell ⟨w.heap.size + 1 + 1, 0, none⟩ (.slice none 0 0)).setCell ⟨w.heap.size + 1 + 1, 1, none⟩ (.slice none 0 0)) from
    ⟨ownLab_nil _ _, ((hz.trans (hW.mono hz.size)).setCell (p := ⟨w.heap.size + 1 + 1, 0, none⟩) (by simp; omega) _).setCell (p := ⟨w.heap.size + 1 + 1, 1, none⟩) (by simp; omega) _⟩)
  have HEC := Lib.hid (fun W (hW : Below W0.heap.size W0 W) => box_cells (heap_setCell_same _ (w.heap.size + 1 + 1) 1 _ _ (.slice none 0 0) (heap_setCell_same _ (w.heap.size + 1 + 1) 0 _ _ (.slice none 0 0) (HX.out W hW).2.2)))
  clear hW0 bx0 bx1 bx2 hb3
  refine (HGA.out W0 hz).mono ?_
  rintro e w1 ⟨rfl, hb1⟩
  have hB1 : Below W0.heap.size W0 w1 := hb1
  obtain ⟨x0, x1, x2⟩ := HX.out w1 hB1
  obtain ⟨p0, p1, _, _⟩ := box_cells x0
  obtain ⟨p2, p3, _, _⟩ := box_cells x1
  obtain ⟨p4, p5, p6, p7⟩ := box_cells x2
  have HB1 := Lib.hid hB1
  have HE1 := Lib.hid (HE.out w1 hB1)
  obtain ⟨d0, d1, _, _⟩ := HEC.out w1 hB1
  clear x0 x1 x2 hb1 hB1
  cases ga : goodLab a with
  | false =>
    have hok : okU a b = false := by simp [okU, ga]
    have hun : unionR a b = ⟨[], []⟩ := by simp [unionR, hok]
    have HOK := Lib.hid hok
    have HUN := Lib.hid hun
    clear hok hun ga
    go_wp2_with fail
    exact bodyPost_ret (v := .tuple #[.agg #[.slice none 0 0, .slice none 0 0], .bool false]) (by simp [results, Tryz.results40, go_sem, *]) rfl ⟨.agg #[.slice none 0 0, .slice none 0 0], by rw [HOK.out], by rw [HUN.out]; exact HE1.out.1, HE1.out.2⟩
  | true =>
    clear d0 d1 HE1
    go_wp2_with fail
    refine (HGB.out w1 (hz.trans (HB1.out.mono hz.size))).mono ?_
    clear p0 p1 p2 p3 p4 p5 p6 p7
    rintro e w2 ⟨rfl, hb2⟩
    have hB2 : Below W0.heap.size W0 w2 := HB1.out.trans (hb2.mono HB1.out.size)
    obtain ⟨x0, x1, x2⟩ := HX.out w2 hB2
    obtain ⟨p0, p1, _, _⟩ := box_cells x0
    obtain ⟨p2, p3, _, _⟩ := box_cells x1
    obtain ⟨p4, p5, p6, p7⟩ := box_cells x2
    have HB2 := Lib.hid hB2
    have HE1 := Lib.hid (HE.out w2 hB2)
    obtain ⟨d0, d1, _, _⟩ := HEC.out w2 hB2
    clear x0 x1 x2 hb2 hB2
    cases gb : goodLab b with
    | false =>
      have hok : okU a b = false := by simp [okU, gb]
      have hun : unionR a b = ⟨[], []⟩ := by simp [unionR, hok]
      have HOK := Lib.hid hok
      have HUN := Lib.hid hun
      clear hok hun ga gb
      go_wp2_with fail
      exact bodyPost_ret (v := .tuple #[.agg #[.slice none 0 0, .slice none 0 0], .bool false]) (by simp [results, Tryz.results40, go_sem, *]) rfl ⟨.agg #[.slice none 0 0, .slice none 0 0], by rw [HOK.out], by rw [HUN.out]; exact HE1.out.1, HE1.out.2⟩
    | true =>
      by_cases h40 : a.shows.length + b.shows.length ≤ 40
      · have hok : okU a b = true := by simp [okU, ga, gb, h40]
        have hun : unionR a b = uniL a b := by simp [unionR, hok]
        have H3 := Lib.hid (HU.out w2 (hz.trans (HB2.out.mono hz.size)) (goodLab_one ga) (goodLab_one gb) h40)
        have hgt : decide ((40 : Int) < ((a.shows.length + b.shows.length : Nat) : Int)) = false := by simp; omega
        have HOK := Lib.hid hok
        have HUN := Lib.hid hun
        clear hok hun ga gb d0 d1 HE1
        go_wp2_with fail
        refine H3.out.mono ?_
        rintro e w3 ⟨r, rfl, hown, hb3⟩
        obtain ⟨B1, d1, B2, d2, rfl⟩ := hown.formU
        have hB3 : Below W0.heap.size W0 w3 := HB2.out.trans (hb3.mono HB2.out.size)
        have hsz2 := HB2.out.size
        obtain ⟨_, _, x2⟩ := HX.out w3 hB3
        obtain ⟨q4, q5, q6, q7⟩ := box_cells x2
        have hK : Kept (fun b => b = w.heap.size + 1 + 1) w3 ((w3.setCell ⟨w.heap.size + 1 + 1, 0, none⟩ (.slice B1 (a.shows.length + b.shows.length) d1)).setCell ⟨w.heap.size + 1 + 1, 1, none⟩ (.slice B2 (a.steps.length + b.steps.length) d2)) := Kept.setCell (S := fun b => b = w.heap.size + 1 + 1) (Kept.setCell (S := fun b => b = w.heap.size + 1 + 1) (Kept.refl _ w3) (p := ⟨w.heap.size + 1 + 1, 0, none⟩) rfl _) (p := ⟨w.heap.size + 1 + 1, 1, none⟩) rfl _
        have hO := (hown.kept hK (fun b h1 h2 => by omega)).mono (T := fun q => w.heap.size ≤ q ∧ q < ((w3.setCell ⟨w.heap.size + 1 + 1, 0, none⟩ (.slice B1 (a.shows.length + b.shows.length) d1)).setCell ⟨w.heap.size + 1 + 1, 1, none⟩ (.slice B2 (a.steps.length + b.steps.length) d2)).heap.size) (fun b h1 => by simp; omega)
        have HF := Lib.hid (show _ ∧ Below w.heap.size w _ from ⟨hO, ((hz.trans (hB3.mono hz.size)).setCell (p := ⟨w.heap.size + 1 + 1, 0, none⟩) (by simp; omega) (.slice B1 (a.shows.length + b.shows.length) d1)).setCell (p := ⟨w.heap.size + 1 + 1, 1, none⟩) (by simp; omega) (.slice B2 (a.steps.length + b.steps.length) d2)⟩)
        obtain ⟨d0, d1', _, _⟩ := box_cells (heap_setCell_same _ (w.heap.size + 1 + 1) 1 _ _ (.slice B2 (a.steps.length + b.steps.length) d2) (heap_setCell_same _ (w.heap.size + 1 + 1) 0 _ _ (.slice B1 (a.shows.length + b.shows.length) d1) x2))
        clear hO hK hown hb3 hB3 x2
        go_wp2_with fail
        exact bodyPost_ret (v := .tuple #[.agg #[.slice B1 (a.shows.length + b.shows.length) d1, .slice B2 (a.steps.length + b.steps.length) d2], .bool true]) (by simp [results, Tryz.results40, go_sem, *]) rfl ⟨.agg #[.slice B1 (a.shows.length + b.shows.length) d1, .slice B2 (a.steps.length + b.steps.length) d2], by rw [HOK.out], by rw [HUN.out]; exact HF.out.1, HF.out.2⟩
      · have hok : okU a b = false := by simp [okU, h40]
        have hun : unionR a b = ⟨[], []⟩ := by simp [unionR, hok]
        have HOK := Lib.hid hok
        have HUN := Lib.hid hun
        clear hok hun ga gb
        go_wp2_with fail
        exact bodyPost_ret (v := .tuple #[.agg #[.slice none 0 0, .slice none 0 0], .bool false]) (by simp [results, Tryz.results40, go_sem, *]) rfl ⟨.agg #[.slice none 0 0, .slice none 0 0], by rw [HOK.out], by rw [HUN.out]; exact HE1.out.1, HE1.out.2⟩

end Go.Proofs.YtdgnhfhaaghoaaaGreatDoor
