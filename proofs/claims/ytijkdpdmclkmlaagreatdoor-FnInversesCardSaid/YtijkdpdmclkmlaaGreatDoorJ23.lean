/- The draw of a wiring. -/
import Derived.Test.YtijkdpdmclkmlaaGreatDoorProg
import Derived.Test.YtijkdpdmclkmlaaGreatDoorJ0
import Derived.Test.YtijkdpdmclkmlaaGreatDoorJ20
import Derived.Test.YtijkdpdmclkmlaaGreatDoorJ21
import Derived.Test.YtijkdpdmclkmlaaGreatDoorJ22
import Derived.Test.YtijkdpdmclkmlaaGreatDoorJ2
import Derived.BigQuiet
set_option linter.unusedSimpArgs false
set_option linter.unusedVariables false
set_option maxRecDepth 100000
set_option maxHeartbeats 16000000
namespace Go.Proofs.YtijkdpdmclkmlaaGreatDoor
open Go.RowKit
/-- A drawn bigraph is handed back by way of the result's box. -/
theorem draw6 {w w9 : World} {p c K K' : Nat} {A : Option Addr} {bs : List Int} {g : Gr} {nv sv ov iv : Value} (hR : w9.heap[w.heap.size]? = some (.cells #[.int .i64 0, .slice none 0 0, .slice none 0 0, .int .i64 0, .slice none 0 0, .slice none 0 0] 31)) (h : RK (w.heap.size + 1) w9 nv sv ov iv g) (hC : Cur w9 p A bs c K) (hp : p < w.heap.size) (hK : K ≤ K') (hk : Kept (fun q => q = p) w w9) :
  ((((((w9.setCell ⟨w.heap.size, 0, none⟩ (.int .i64 g.roots)).setCell ⟨w.heap.size, 1, none⟩ nv).setCell ⟨w.heap.size, 2, none⟩ sv).setCell ⟨w.heap.size, 3, none⟩ (.int .i64 g.edges)).setCell ⟨w.heap.size, 4, none⟩ ov).setCell ⟨w.heap.size, 5, none⟩ iv).heap[w.heap.size]? = some (.cells #[.int .i64 g.roots, nv, sv, .int .i64 g.edges, ov, iv] 31) ∧
  RK w.heap.size ((((((w9.setCell ⟨w.heap.size, 0, none⟩ (.int .i64 g.roots)).setCell ⟨w.heap.size, 1, none⟩ nv).setCell ⟨w.heap.size, 2, none⟩ sv).setCell ⟨w.heap.size, 3, none⟩ (.int .i64 g.edges)).setCell ⟨w.heap.size, 4, none⟩ ov).setCell ⟨w.heap.size, 5, none⟩ iv) nv sv ov iv g ∧
  Cur ((((((w9.setCell ⟨w.heap.size, 0, none⟩ (.int .i64 g.roots)).setCell ⟨w.heap.size, 1, none⟩ nv).setCell ⟨w.heap.size, 2, none⟩ sv).setCell ⟨w.heap.size, 3, none⟩ (.int .i64 g.edges)).setCell ⟨w.heap.size, 4, none⟩ ov).setCell ⟨w.heap.size, 5, none⟩ iv) p A bs c K' ∧
  Kept (fun q => q = p) w ((((((w9.setCell ⟨w.heap.size, 0, none⟩ (.int .i64 g.roots)).setCell ⟨w.heap.size, 1, none⟩ nv).setCell ⟨w.heap.size, 2, none⟩ sv).setCell ⟨w.heap.size, 3, none⟩ (.int .i64 g.edges)).setCell ⟨w.heap.size, 4, none⟩ ov).setCell ⟨w.heap.size, 5, none⟩ iv) := by
 have e0 := heap_setCell_same w9 w.heap.size 0 _ _ (.int .i64 g.roots) hR
 have e1 := heap_setCell_same _ w.heap.size 1 _ _ nv e0
 have e2 := heap_setCell_same _ w.heap.size 2 _ _ sv e1
 have e3 := heap_setCell_same _ w.heap.size 3 _ _ (.int .i64 g.edges) e2
 have e4 := heap_setCell_same _ w.heap.size 4 _ _ ov e3
 have e5 := heap_setCell_same _ w.heap.size 5 _ _ iv e4
 have hKF := (((((((Kept.refl (fun q => q = w.heap.size) w9).setCell (p := ⟨w.heap.size, 0, none⟩) rfl (.int .i64 g.roots)).setCell (p := ⟨w.heap.size, 1, none⟩) rfl nv).setCell (p := ⟨w.heap.size, 2, none⟩) rfl sv).setCell (p := ⟨w.heap.size, 3, none⟩) rfl (.int .i64 g.edges)).setCell (p := ⟨w.heap.size, 4, none⟩) rfl ov).setCell (p := ⟨w.heap.size, 5, none⟩) rfl iv)
 have hl := (Array.getElem?_eq_some_iff.1 hR).1
 refine ⟨e5, rk_fin h hKF (Nat.lt_succ_self _), cur_fin hC hKF hp hK, hKF.os.trans hk.os, hKF.tape.trans hk.tape, hKF.output.trans hk.output, Nat.le_trans hk.size hKF.size, fun b hb hn => ?_⟩
 exact (hKF.block b (by have := hk.size; omega) (by omega)).trans (hk.block b hb hn)
theorem keptP {w0 w5 W : World} {p P : Nat} (h1 : Kept (fun q => q = p) w0 w5) (h2 : Kept (fun q => q = p ∨ q = P ∨ w5.heap.size ≤ q) w5 W) (hP : w0.heap.size ≤ P) : Kept (fun q => q = p) w0 W := by
 have := h1.size
 exact ⟨h2.os.trans h1.os, h2.tape.trans h1.tape, h2.output.trans h1.output, Nat.le_trans h1.size h2.size, fun b hb hn => (h2.block b (by omega) (by omega)).trans (h1.block b hb hn)⟩
/-- A wiring that is being drawn. -/
structure WD (w5 : World) (p P : Nat) (A : Option Addr) (bs : List Int) (c : Nat) (bx : Array Value) (iv : Value) (is : List Wi) (n K : Nat) (W : World) : Prop where
 k : Kept (fun q => q = p ∨ q = P ∨ w5.heap.size ≤ q) w5 W
 cur : Cur W p A bs c K
 box : W.heap[P]? = some (.cells bx 31)
 I : W.ownsRow w5.heap.size 90 2 iv n (is.flatMap encWi)
section
variable {w5 W W' : World} {p P c n K K' : Nat} {A : Option Addr} {bs : List Int} {bx : Array Value} {iv : Value} {is : List Wi}
theorem WD.lay (h : WD w5 p P A bs c bx iv is n K W) (hb : Below W.heap.size W W') : WD w5 p P A bs c bx iv is n K W' :=
  { k := h.k.trans (Kept.of_below hb _), cur := h.cur.below hb, box := (hb.block _ (Array.getElem?_eq_some_iff.1 h.box).1).trans h.box, I := owns_below h.I hb (Nat.le_refl _) }
theorem WD.draw (h : WD w5 p P A bs c bx iv is n K W) (hpP : p < P) (hP : P < w5.heap.size) (hk : Kept (fun q => q = p) W W') (hC : Cur W' p A bs c K') : WD w5 p P A bs c bx iv is n K' W' :=
  { k := h.k.trans (hk.mono fun q hq => .inl hq), cur := hC, box := (hk.block _ (Array.getElem?_eq_some_iff.1 h.box).1 (by omega)).trans h.box, I := ownsK h.I hk (fun g hg e => by have := (h.I.lt g hg).1; omega) }
theorem WD.app {v : Value} {x : Wi} (h : WD w5 p P A bs c bx iv is n K W) (hpP : p < P) (hP : P < w5.heap.size) (ho : W'.ownsRow w5.heap.size 90 2 v (n + 1) (is.flatMap encWi ++ [.string x.1, .int .i64 x.2])) (hk : Kept (fun q => iv.ownBlock = some q) W W') : WD w5 p P A bs c bx v (is ++ [x]) (n + 1) K W' :=
  { k := h.k.trans (hk.mono fun q hq => .inr (.inr (h.I.lt q hq).1)), cur := h.cur.kept hk (fun q hq => by have := (h.I.lt q hq).1; omega)
    box := (hk.block _ (Array.getElem?_eq_some_iff.1 h.box).1 (fun e => by have := (h.I.lt _ e).1; omega)).trans h.box
    I := by rw [List.flatMap_append]; simpa [encWi] using ho }
theorem WD.put (h : WD w5 p P A bs c bx iv is n K W) (hpP : p < P) (hP : P < w5.heap.size) (f : Nat) (u : Value) : WD w5 p P A bs c (bx.setIfInBounds f u) iv is n K (W.setCell ⟨P, f, none⟩ u) := by
 have hk : Kept (fun q => q = P) W (W.setCell ⟨P, f, none⟩ u) := Kept.setCell (S := fun q => q = P) (Kept.refl _ W) (p := ⟨P, f, none⟩) rfl u
 exact { k := h.k.trans (hk.mono fun q hq => .inr (.inl hq)), cur := h.cur.kept hk (fun q hq => by omega), box := heap_setCell_same _ _ _ _ _ _ h.box, I := ownsK h.I hk (fun g hg e => by have := (h.I.lt g hg).1; omega) }
theorem WD.cell (h : WD w5 p P A bs c bx iv is n K W) {f : Nat} {u : Value} (hf : bx[f]? = some u) : W.cell? ⟨P, f, none⟩ = some u := (cell_of_row W P f _ _ _ h.box).trans hf
end

theorem wires_any (p : Nat) (A : Option Addr) (bs : List Int) (c K : Nat) (w : World) (hC : Cur w p A bs c K) (hK : K ≤ 1000000000000) :
    Calls Tryz.prog 147 #[.pointer (some ⟨p, 0, none⟩)] w fun e w' => ∃ nv sv ov iv g, e = .returned (.agg #[.int .i64 g.roots, nv, sv, .int .i64 g.edges, ov, iv]) ∧ RK w.heap.size w' nv sv ov iv g ∧ SmallG g ∧ Cur w' p A bs c (K + 20000) ∧ Kept (fun q => q = p) w w' := by
  have hpw := hC.lt
  obtain ⟨w0, hw0, hb0, hs0, hR0⟩ := laid1 w (.cells #[.int .i64 0, .slice none 0 0, .slice none 0 0, .int .i64 0, .slice none 0 0, .slice none 0 0] 31)
  have HRR := Lib.hid (show ∀ W, Kept (fun q => q = p) w0 W → W.heap[w.heap.size]? = some (.cells #[.int .i64 0, .slice none 0 0, .slice none 0 0, .int .i64 0, .slice none 0 0, .slice none 0 0] 31) from fun W hk => (hk.block _ (by omega) (by omega)).trans hR0)
  have HKX := Lib.hid (Kept.of_below hb0 (fun q => q = p))
  have HS0 := Lib.hid hs0
  have H1 := Lib.hid (pick_any p A bs c K 3 w0 (hC.below hb0) (by omega) (by omega))
  have HW0 := Lib.hid (show w.alloc (.cells #[.int .i64 0, .slice none 0 0, .slice none 0 0, .int .i64 0, .slice none 0 0, .slice none 0 0] 31) = w0 from hw0.symm)
  clear hC hb0 hR0 hw0 hs0
  go_enter Tryz.func147, Tryz.ntmps147
  go_wp2_with fail
  rw [HW0.out]
  (with_reducible refine H1.out.mono ?_)
  rintro e w1 ⟨ed, rfl, he0, he1, hC1, hK1⟩
  have he2 : ed ≤ 2 := by have := he1 (by omega); omega
  have HK1 := Lib.hid hK1
  have H2 := Lib.hid (names3_any p A bs c (K + 2) w1 hC1 (by omega))
  clear H1 he1 hC1 hK1
  go_wp2_with fail
  (with_reducible refine H2.out.mono ?_)
  rintro e w2 ⟨v, l, rfl, hd, hC2, hK2⟩
  obtain ⟨AV, dV, rfl, hcv⟩ := hd.ex
  have HK2 := Lib.hid (HK1.out.trans hK2)
  have HDL := Lib.hid hd.len
  have H3 := Lib.hid (l2Sorted_any AV dV l w2 (by have := hd.len; omega) (hcv w2 (Kept.refl _ _)))
  have HOL := Lib.hid (show (sortS l).length ≤ 40 ∧ ∀ s ∈ sortS l, s.size ≤ 100 from ⟨Nat.le_trans (sortS_len l) hd.len, fun s hs => hd.sz s (sortS_mem.1 hs)⟩)
  have HC2 := Lib.hid hC2
  have HK2S := Lib.hid (show w0.heap.size ≤ w2.heap.size from HK2.out.size)
  clear H2 hd hC2 hK2 hcv
  go_wp2_with fail
  (with_reducible refine H3.out.mono ?_)
  rintro e w3 ⟨go, co, rfl, hu, hb3⟩
  obtain ⟨outs, ho⟩ : ∃ outs, outs = sortS l := ⟨_, rfl⟩
  rw [← ho] at hu HOL ⊢
  have HU := Lib.hid hu
  have HB3 := Lib.hid hb3
  have hgo := hu.lt go rfl
  clear hu hb3 H3 ho
  go_wp2_with fail
  obtain ⟨wN, hwN, hbN, hsN, -⟩ := laid1 w3 (.cells #[.int .i64 0, .slice none 0 0, .slice none 0 0, .int .i64 ed, .slice (some ⟨go, 0, none⟩) outs.length co, (.slice none 0 0)] 31)
  have hs3 := HB3.out.size
  have HBX := Lib.hid (show wN.heap[w3.heap.size]? = some (.cells #[.int .i64 0, .slice none 0 0, .slice none 0 0, .int .i64 ed, .slice (some ⟨go, 0, none⟩) outs.length co, (.slice none 0 0)] 31) from by rw [hwN]; exact heap_alloc_new _ _)
  have HUN := Lib.hid (owns_below HU.out hbN (Nat.le_refl _))
  have HKN := Lib.hid ((HK2.out.trans (Kept.of_below HB3.out _)).trans (Kept.of_below hbN _))
  have H4 := Lib.hid (names3_any p A bs c (K + 2 + 100) wN ((HC2.out.below HB3.out).below hbN) (by omega))
  have HWN := Lib.hid hwN
  clear hwN hbN
  rw [← HWN.out]
  (with_reducible refine H4.out.mono ?_)
  rintro e w4 ⟨v, l4, rfl, hd, hC4, hK4⟩
  obtain ⟨AV4, dV4, rfl, hcv⟩ := hd.ex
  have HK4 := Lib.hid hK4
  have hs4 := hK4.size
  have H5 := Lib.hid (l2Sorted_any AV4 dV4 l4 w4 (by have := hd.len; omega) (hcv w4 (Kept.refl _ _)))
  have HNL := Lib.hid (show (sortS l4).length ≤ 40 ∧ ∀ s ∈ sortS l4, s.size ≤ 100 from ⟨Nat.le_trans (sortS_len l4) hd.len, fun s hs => hd.sz s (sortS_mem.1 hs)⟩)
  have HC4 := Lib.hid hC4
  clear H4 hd hC4 hK4 hcv
  go_wp2_with fail
  (with_reducible refine H5.out.mono ?_)
  rintro e w5 ⟨gn, dn, rfl, hu, hb5⟩
  obtain ⟨nms, ho⟩ : ∃ nms, nms = sortS l4 := ⟨_, rfl⟩
  rw [← ho] at hu HNL ⊢
  have hs5 := hb5.size
  have hpP : p < w3.heap.size := by have := HS0.out; have := HK2S.out; omega
  have hgn := hu.lt gn rfl
  have hP5 : w3.heap.size < w5.heap.size := by omega
  have hP0 : w0.heap.size ≤ w3.heap.size := by have := HK2S.out; omega
  have hw2R : w.heap.size + 1 ≤ w2.heap.size := by have := HS0.out; have := HK2S.out; omega
  have HNW := Lib.hid hu
  have HK45 := Lib.hid (HK4.out.trans (Kept.of_below hb5 _))
  have HK5 := Lib.hid ((HKN.out.trans HK4.out).trans (Kept.of_below hb5 _))
  have HO5 := Lib.hid (ownsK HUN.out HK45.out (fun g hg e => by have := (HUN.out.lt g hg).1; omega))
  have HOA := Lib.hid (show ∀ g, (Value.slice (some ⟨go, 0, none⟩) outs.length co).ownBlock = some g → g < w3.heap.size ∧ g ≠ p from fun g hg => by have h1 := HU.out.lt g hg; exact ⟨h1.2, by omega⟩)
  have HW5 := Lib.hid (show WD w5 p w3.heap.size A bs c #[.int .i64 0, .slice none 0 0, .slice none 0 0, .int .i64 ed, .slice (some ⟨go, 0, none⟩) outs.length co, (.slice none 0 0)] (.slice none 0 0) [] 0 (K + 2 + 100 + 100) w5 from
    { k := Kept.refl _ _, cur := HC4.out.below hb5, box := (HK45.out.block _ (by omega) (by omega)).trans HBX.out, I := none_row })
  obtain ⟨nn, hnn⟩ : ∃ nn, nn = nms.length := ⟨_, rfl⟩
  rw [← hnn] at HNW ⊢
  have HNN := Lib.hid hnn
  have hnl : nn ≤ 40 := by rw [hnn]; exact HNL.out.1
  have hol : outs.length ≤ 40 := HOL.out.1
  clear hu hb5 H5 ho hnn
  go_wp2_with fail
  go_loopw [5] (fun z wr => ∃ (j : Nat) (iv : Value) (is : List Wi) (K1 : Nat), j ≤ nn ∧ z = .int .i64 j ∧ is.length = j ∧ (∀ x ∈ is, x.1.size ≤ 100) ∧ K1 ≤ K + 2 + 100 + 100 + 50 * j ∧ WD w5 p w3.heap.size A bs c #[.int .i64 0, .slice none 0 0, .slice none 0 0, .int .i64 ed, .slice (some ⟨go, 0, none⟩) outs.length co, iv] iv is j K1 wr)
    (fun z _ => nn - (intOf z).toNat)
  case atStart => exact ⟨0, .slice none 0 0, [], _, Nat.zero_le _, rfl, rfl, fun x hx => (nomatch hx), by omega, HW5.out⟩
  obtain ⟨j, iv, is, K1, hj, rfl, hln, hib, hK1, hW⟩ := hrel
  obtain ⟨AI, cI, rfl, _⟩ := owns_form hW.I
  have HWD := Lib.hid hW
  have HLN := Lib.hid hln
  have HIB := Lib.hid hib
  have y3 := hW.cell (f := 3) (u := .int .i64 ed) rfl
  have y4 := hW.cell (f := 4) (u := .slice (some ⟨go, 0, none⟩) outs.length co) rfl
  have hwr := IntWalk.i64_in (ed + (outs.length : Int)) (by omega)
  clear hW hln hib
  by_cases hlt : j < nn
  · by_cases hsum : 0 < ed + (outs.length : Int)
    · obtain ⟨s, hs⟩ : ∃ s, s = nms.getD j default := ⟨_, rfl⟩
      have hcn : w5.cell? ⟨gn, j, none⟩ = some (.string s) := by
        obtain ⟨b', o', e', hc'⟩ := (Cells.of_owns HNW.out).str (show j < nms.length by rw [← HNN.out]; exact hlt)
        cases e'
        have h := hc' j (by rw [← HNN.out]; exact hlt)
        rw [← hs, Nat.zero_add] at h
        exact h
      have HNC := Lib.hid (show ∀ W, Kept (fun q => q = p ∨ q = w3.heap.size ∨ w5.heap.size ≤ q) w5 W → W.cell? ⟨gn, j, none⟩ = some (.string s) from fun W hk => (World.cell?_of_block (a := ⟨gn, j, none⟩) (hk.block gn hgn.2 (by omega))).trans hcn)
      have HSS := Lib.hid (show s.size ≤ 100 from by rw [hs]; exact HNL.out.2 _ (by simp [List.getD, show j < nms.length by rw [← HNN.out]; exact hlt]))
      have HIB2 := Lib.hid (show ∀ (y : Int), ∀ x ∈ is ++ [(s, y)], x.1.size ≤ 100 from fun y x hx => by
        rcases List.mem_append.1 hx with h | h
        · exact HIB.out x h
        simp at h; subst h; exact HSS.out)
      have v0 : (0 : Int) ≤ (j : Int) := by omega
      have v1 : (j : Int) < (nn : Int) := by omega
      clear hcn hs
      go_wp2_with fail
      clear y3 y4 hwr
      refine wp_region_ph (by kernel_rfl) [some 30, some 31, some 32, some 33, some 34, some 35, some 36, some 37, some 38, some 39, some 40, some 41, some 42, some 43, some 44, some 45, some 46, some 47, none] (fun q v => match q with | 0 => v = .pointer (some ⟨w3.heap.size, 5, none⟩) | 1 => v = .slice AI j cI | 2 => v = .slice (some ⟨gn, 0, none⟩) nn dn | 3 => v = .int .i64 (j : Int) | 4 => v = .pointer (some ⟨gn, j, none⟩) | 5 => v = .string s | 6 => v = .pointer (some ⟨p, 0, none⟩) | 7 => v = .pointer (some ⟨w3.heap.size, 3, none⟩) | 8 => v = .int .i64 ed | 9 => v = .pointer (some ⟨w3.heap.size, 4, none⟩) | 10 => v = .slice (some ⟨go, 0, none⟩) outs.length co | 11 => v = .int .i64 (outs.length : Int) | 12 => v = .int .i64 (ed + (outs.length : Int)) | 13 => ∃ x : Int, v = .int .i64 x | 14 => ∃ x : Int, v = .agg #[.string s, .int .i64 x] | 15 => ∃ g, v = .slice (some ⟨g, 0, none⟩) 1 1 | 16 => True | 17 => v = .pointer (some ⟨w3.heap.size, 5, none⟩) | 18 => True | _ => True) (fun q v W => match q with | 0 => True | 1 => True | 2 => True | 3 => True | 4 => True | 5 => True | 6 => True | 7 => True | 8 => True | 9 => True | 10 => True | 11 => True | 12 => True | 13 => True | 14 => True | 15 => ∀ g, v = .slice (some ⟨g, 0, none⟩) 1 1 → p + 1 ≤ g ∧ ∃ x : Int, W.heap[g]? = some (.cells #[.string s, .int .i64 x] 90) | 16 => True | 17 => True | 18 => True | _ => True) (fun W W' => Kept (fun q => q = p) W W') 16 18 (fun kk W => ∃ K2 : Nat, K2 ≤ K1 + 2 * kk ∧ WD w5 p w3.heap.size A bs c #[.int .i64 0, .slice none 0 0, .slice none 0 0, .int .i64 ed, .slice (some ⟨go, 0, none⟩) outs.length co, .slice AI j cI] (.slice AI j cI) is j K2 W) (fun v W => (∃ A2 c2, v = .slice A2 (j + 1) c2) ∧ ∃ (x : Int) (K3 : Nat), K3 ≤ K1 + 50 ∧ WD w5 p w3.heap.size A bs c #[.int .i64 0, .slice none 0 0, .slice none 0 0, .int .i64 ed, .slice (some ⟨go, 0, none⟩) outs.length co, .slice AI j cI] v (is ++ [(s, x)]) (j + 1) K3 W) (fun v W => (∃ A2 c2, v = .slice A2 (j + 1) c2) ∧ ∃ (x : Int) (K3 : Nat), K3 ≤ K1 + 50 ∧ WD w5 p w3.heap.size A bs c #[.int .i64 0, .slice none 0 0, .slice none 0 0, .int .i64 ed, .slice (some ⟨go, 0, none⟩) outs.length co, v] v (is ++ [(s, x)]) (j + 1) K3 W) (by kernel_rfl) (by kernel_rfl) (by kernel_rfl) (by decide) (by decide) ?m1o ?r1s ?h10 ?s1t ?f1i
      case m1o => exact fun k k' W h hd => by obtain ⟨K2, h1, h2⟩ := hd; exact ⟨K2, Nat.le_trans h1 (Nat.add_le_add_left (Nat.mul_le_mul_left 2 h) _), h2⟩
      case r1s =>
        intro q v W W' ht h
        match q, h with
        | 0, h | 1, h | 2, h | 3, h | 4, h | 5, h | 6, h | 7, h | 8, h | 9, h | 10, h | 11, h | 12, h | 13, h | 14, h | 16, h | 17, h | 18, h => exact h
        | 15, h => exact fun g e => ⟨(h g e).1, (h g e).2.imp fun x hx => (ht.block g (Array.getElem?_eq_some_iff.1 hx).1 (by have := (h g e).1; omega)).trans hx⟩
        | q + 19, _ => trivial
      case h10 => exact ⟨K1, Nat.le_refl _, HWD.out.lay ((Below.refl _ _).drew)⟩
      case s1t =>
        as_aux_lemma =>
          intro L act W q oo hJ hL hA hS ho hd K3 hK3
          match q, ho with
          | 0, ho | 7, ho | 9, ho | 17, ho =>
            cases ho
            have a3 : act.tmps[3]? = some _ := hJ.out 3 (by decide)
            clear hJ hd
            go_simp
            exact hK3 _ _ (.same (by decide) (by decide) rfl rfl (fun _ => trivial))
          | 1, ho =>
            cases ho
            simp [Region.binds] at hd
            have v0 := hJ.val (by simp [hd] : L 0 = true) rfl fun _ h => h
            have hn : L 16 = false := hA (by kernel_rfl)
            have hD := hJ.d hn
            obtain ⟨K2, hK2, hD⟩ := hD
            have z5 := hD.cell (f := 5) (u := .slice AI j cI) rfl
            have HD := Lib.hid hD
            clear hD hJ hd
            go_simp
            exact hK3 _ _ (.same (by decide) (by decide) rfl rfl (fun _ => trivial))
          | 2, ho =>
            cases ho
            have a4 : act.tmps[4]? = some _ := hJ.out 4 (by decide)
            clear hJ hd
            go_simp
            exact hK3 _ _ (.same (by decide) (by decide) rfl rfl (fun _ => trivial))
          | 3, ho =>
            cases ho
            have a5 : act.tmps[5]? = some _ := hJ.out 5 (by decide)
            clear hJ hd
            go_simp
            exact hK3 _ _ (.same (by decide) (by decide) rfl rfl (fun _ => trivial))
          | 4, ho =>
            cases ho
            simp [Region.binds] at hd
            have v2 := hJ.val (by simp [hd] : L 2 = true) rfl fun _ h => h
            have v3 := hJ.val (by simp [hd] : L 3 = true) rfl fun _ h => h
            clear hJ hd
            go_simp
            exact hK3 _ _ (.same (by decide) (by decide) rfl rfl (fun _ => trivial))
          | 5, ho =>
            cases ho
            simp [Region.binds] at hd
            have v4 := hJ.val (by simp [hd] : L 4 = true) rfl fun _ h => h
            have hn : L 16 = false := hA (by kernel_rfl)
            have hD := hJ.d hn
            obtain ⟨K2, hK2, hD⟩ := hD
            have k0W := HNC.out W hD.k
            have HD := Lib.hid hD
            clear hD hJ hd
            go_simp
            exact hK3 _ _ (.same (by decide) (by decide) rfl rfl (fun _ => trivial))
          | 6, ho =>
            cases ho
            have a0 : act.tmps[0]? = some _ := hJ.out 0 (by decide)
            clear hJ hd
            go_simp
            exact hK3 _ _ (.same (by decide) (by decide) rfl rfl (fun _ => trivial))
          | 8, ho =>
            cases ho
            simp [Region.binds] at hd
            have v7 := hJ.val (by simp [hd] : L 7 = true) rfl fun _ h => h
            have hn : L 16 = false := hA (by kernel_rfl)
            have hD := hJ.d hn
            obtain ⟨K2, hK2, hD⟩ := hD
            have z3 := hD.cell (f := 3) (u := .int .i64 ed) rfl
            have HD := Lib.hid hD
            clear hD hJ hd
            go_simp
            exact hK3 _ _ (.same (by decide) (by decide) rfl rfl (fun _ => trivial))
          | 10, ho =>
            cases ho
            simp [Region.binds] at hd
            have v9 := hJ.val (by simp [hd] : L 9 = true) rfl fun _ h => h
            have hn : L 16 = false := hA (by kernel_rfl)
            have hD := hJ.d hn
            obtain ⟨K2, hK2, hD⟩ := hD
            have z4 := hD.cell (f := 4) (u := .slice (some ⟨go, 0, none⟩) outs.length co) rfl
            have HD := Lib.hid hD
            clear hD hJ hd
            go_simp
            exact hK3 _ _ (.same (by decide) (by decide) rfl rfl (fun _ => trivial))
          | 11, ho =>
            cases ho
            simp [Region.binds] at hd
            have v10 := hJ.val (by simp [hd] : L 10 = true) rfl fun _ h => h
            clear hJ hd
            go_simp
            exact hK3 _ _ (.same (by decide) (by decide) rfl rfl (fun _ => trivial))
          | 12, ho =>
            cases ho
            simp [Region.binds] at hd
            have v8 := hJ.val (by simp [hd] : L 8 = true) rfl fun _ h => h
            have v11 := hJ.val (by simp [hd] : L 11 = true) rfl fun _ h => h
            have hwr := IntWalk.i64_in (ed + (outs.length : Int)) (by omega)
            clear hJ hd
            go_simp
            exact hK3 _ _ (.same (by decide) (by decide) rfl rfl (fun _ => trivial))
          | 13, ho =>
            cases ho
            simp [Region.binds] at hd
            have v6 := hJ.val (by simp [hd] : L 6 = true) rfl fun _ h => h
            have v12 := hJ.val (by simp [hd] : L 12 = true) rfl fun _ h => h
            have hn : L 16 = false := hA (by kernel_rfl)
            have hD := hJ.d hn
            obtain ⟨K2, hK2, hD⟩ := hD
            have hK2b : K2 ≤ K1 + 2 * cntL 19 L := hK2
            have hc19 := cnt_le L 19
            have HCU := Lib.hid (show K2 + 2 ≤ K1 + 2 * cntL 19 (upd L 13) from by rw [cnt_upd hL (by decide)]; omega)
            have hK2c : K2 ≤ 10000000000000 := by omega
            clear hK2 hK2b hc19
            have HD := Lib.hid hD
            clear hJ hd hD
            go_simp
            go_at_call 97
            refine (pick_any p A bs c K2 (ed + (outs.length : Int)) W HD.out.cur (by omega) (by omega)).mono ?_
            rintro e W' ⟨x, rfl, hx0, hx1, hC, hb⟩
            go_simp
            exact hK3 _ _ (.lay (by decide) (by decide) ⟨_, rfl⟩ hn (hb) trivial (⟨K2 + 2, HCU.out, HD.out.draw hpP hP5 hb hC⟩))
          | 14, ho =>
            cases ho
            simp [Region.binds] at hd
            have v5 := hJ.val (by simp [hd] : L 5 = true) rfl fun _ h => h
            have l13 : L 13 = true := by simp [hd]
            obtain ⟨u13, v13, ⟨x, rfl⟩, hr13⟩ := hJ.has 13 43 l13 rfl
            clear hJ hd
            go_simp
            exact hK3 _ _ (.same (by decide) (by decide) ⟨_, rfl⟩ rfl (fun _ => trivial))
          | 15, ho =>
            cases ho
            simp [Region.binds] at hd
            have l14 : L 14 = true := by simp [hd]
            obtain ⟨u14, v14, ⟨x, rfl⟩, hr14⟩ := hJ.has 14 44 l14 rfl
            have hn : L 16 = false := hA (by kernel_rfl)
            have hD := hJ.d hn
            obtain ⟨K2, hK2, hD⟩ := hD
            have HCM := Lib.hid (Nat.le_trans hK2 (Nat.add_le_add_left (Nat.mul_le_mul_left 2 (cnt_mono hL _)) _))
            clear hK2
            have HD := Lib.hid hD
            clear hJ hd hD
            go_simp
            exact hK3 _ _ (.lay (by decide) (by decide) ⟨_, rfl⟩ hn (Kept.of_below ((Below.refl _ _).alloc (Nat.le_refl _) _) _) (fun g e => by injection e with e1; injection e1 with e2; injection e2 with e3; subst e3; exact ⟨HD.out.cur.lt, _, heap_alloc_new _ _⟩) (⟨K2, HCM.out, HD.out.lay ((Below.refl _ _).alloc (Nat.le_refl _) _)⟩))
          | 16, ho =>
            cases ho
            simp [Region.binds] at hd
            have v1 := hJ.val (by simp [hd] : L 1 = true) rfl fun _ h => h
            have l15 : L 15 = true := by simp [hd]
            obtain ⟨u15, v15, ⟨g, rfl⟩, hr15⟩ := hJ.has 15 45 l15 rfl
            have hn : L 16 = false := hA (by kernel_rfl)
            have hD := hJ.d hn
            obtain ⟨K2, hK2, hD⟩ := hD
            have hK2b : K2 ≤ K1 + 2 * cntL 19 L := hK2
            have hc19 := cnt_le L 19
            have hK2c : K2 ≤ K1 + 50 := by omega
            clear hK2 hK2b hc19
            obtain ⟨hg1, x, hg2⟩ := hr15 hn g rfl
            clear hJ hd
            refine step_appM el_wireG rfl (.tmp 31) (.tmp 45) rfl w5.heap.size ((.slice AI j cI)) j ((is.flatMap encWi)) (by simp [Act.eval, *]) (hD.I) ⟨g, 0, none⟩ 1 1 [.string s, .int .i64 x] (by simp [Act.eval, *]) (by decide) rfl (fun j' u' hj' => by rw [show (⟨g, 0, none⟩ : Addr).add j' = ⟨g, j', none⟩ from by simp [Addr.add, eq_comm], cell_of_row W g _ _ _ _ hg2]; simpa using hj') (wi_one _ _) (by omega) (hD.k.size) ?_
            intro v' W' ho hk hm
            exact hK3 _ _ (.app rfl (by decide) trivial (⟨by obtain ⟨A2, c2, e, _⟩ := owns_form ho; exact ⟨A2, c2, e⟩, x, K2, hK2c, hD.app (x := (s, x)) hpP hP5 ho hk⟩))
          | 18, ho =>
            cases ho
            simp [Region.binds] at hd
            have v17 := hJ.val (by simp [hd] : L 17 = true) rfl fun _ h => h
            have l16 : L 16 = true := by simp [hd]
            obtain ⟨u, hu, hE⟩ := hJ.e l16 hL
            have v16 := hu 46 rfl
            clear hJ hd
            obtain ⟨⟨A2, c2, rfl⟩, x, K3, hK3b, hE⟩ := hE
            have z5 := hE.cell (f := 5) (u := .slice AI j cI) rfl
            have f5 := frozen_of_row W w3.heap.size 5 _ _ hE.box
            have HFF := Lib.hid ((⟨⟨A2, c2, rfl⟩, x, K3, hK3b, hE.put hpP hP5 5 _⟩ : (∃ A2 c2, _ = Value.slice A2 (j + 1) c2) ∧ ∃ (x : Int) (K3 : Nat), K3 ≤ K1 + 50 ∧ WD w5 p w3.heap.size A bs c #[.int .i64 0, .slice none 0 0, .slice none 0 0, .int .i64 ed, .slice (some ⟨go, 0, none⟩) outs.length co, (.slice A2 (j + 1) c2)] (.slice A2 (j + 1) c2) (is ++ [(s, x)]) (j + 1) K3 _))
            clear hE
            go_simp
            exact hK3 undef _ (.store rfl (by decide) trivial _ hu HFF.out)
          | q + 19, ho => simp at ho
      intro V W hF hV
      obtain ⟨v, hv, hF⟩ := hF
      have v16 : V 16 = v := hv 46 rfl
      have v0 : V 0 = _ := hV 0 30 rfl
      have v1 : V 1 = _ := hV 1 31 rfl
      have v2 : V 2 = _ := hV 2 32 rfl
      have v3 : V 3 = _ := hV 3 33 rfl
      have v4 : V 4 = _ := hV 4 34 rfl
      have v5 : V 5 = _ := hV 5 35 rfl
      have v6 : V 6 = _ := hV 6 36 rfl
      have v7 : V 7 = _ := hV 7 37 rfl
      have v8 : V 8 = _ := hV 8 38 rfl
      have v9 : V 9 = _ := hV 9 39 rfl
      have v10 : V 10 = _ := hV 10 40 rfl
      have v11 : V 11 = _ := hV 11 41 rfl
      have v12 : V 12 = _ := hV 12 42 rfl
      obtain ⟨x13, v13⟩ : ∃ x : Int, V 13 = .int .i64 x := hV 13 43 rfl
      obtain ⟨x14, v14⟩ : ∃ x : Int, V 14 = .agg #[.string s, .int .i64 x] := hV 14 44 rfl
      obtain ⟨g15, v15⟩ : ∃ g, V 15 = .slice (some ⟨g, 0, none⟩) 1 1 := hV 15 45 rfl
      have v17 : V 17 = _ := hV 17 47 rfl
      clear hV hv
      simp only [layV, List.setIfInBounds_toArray, List.set_cons_zero, List.set_cons_succ, v0, v1, v2, v3, v4, v5, v6, v7, v8, v9, v10, v11, v12, v13, v14, v15, v17, v16]
      clear v0 v1 v2 v3 v4 v5 v6 v7 v8 v9 v10 v11 v12 v13 v14 v15 v17 v16
      obtain ⟨⟨A2, c2, rfl⟩, x, K3, hK3, hW⟩ := hF
      have HW2 := Lib.hid hW
      clear hW
      go_wp2_with fail
      go_roundw
      case rel => exact ⟨j + 1, _, is ++ [(s, x)], K3, by omega, by go_num, by rw [List.length_append, HLN.out]; rfl, HIB2.out x, by omega, HW2.out⟩
      case measure => simp [intOf]; omega
    clear y3 y4 hwr
    have y3 := HWD.out.cell (f := 3) (u := .int .i64 ed) rfl
    have y4 := HWD.out.cell (f := 4) (u := .slice (some ⟨go, 0, none⟩) outs.length co) rfl
    have hwr := IntWalk.i64_in (ed + (outs.length : Int)) (by omega)
    go_wp2_with fail
    clear y3 y4 hwr
    obtain rfl : is.length = j := HLN.out
    have hKW := keptP HK5.out HWD.out.k hP0
    have HKW := Lib.hid hKW
    have H1 := Lib.hid (one_any p A bs c K1 24 wr HWD.out.cur (by omega) (by omega))
    clear hKW
    go_wp2_with fail
    (with_reducible refine H1.out.mono ?_)
    rintro e w7 ⟨b, rfl, hc7, hk7⟩
    have HC7 := Lib.hid hc7
    have HK7 := Lib.hid (HKW.out.trans hk7)
    have HWD7 := Lib.hid (HWD.out.draw hpP hP5 hk7 hc7)
    have hsw7 := hk7.size
    have hsw5 := HWD.out.k.size
    clear hc7 hk7 H1
    have HSX := Lib.hid (show SX ⟨0, ed, .slice none 0 0, .slice none 0 0, .slice (some ⟨go, 0, none⟩) outs.length co, .slice AI is.length cI, [], [], [], outs, is⟩ from { nl := Nat.zero_le _, nd := fun x hx => (nomatch hx), sl := Nat.zero_le _, sb := fun x hx => (nomatch hx), ol := HOL.out.1, on := HOL.out.2, il := by show is.length ≤ 40; omega, ib := HIB.out, r := by show (-100 : Int) ≤ 0 ∧ (0 : Int) ≤ 100; omega, e := by show -100 ≤ ed ∧ ed ≤ 100; omega })
    have HOW := Lib.hid (show w7.ownsRow w2.heap.size 9 1 (.slice (some ⟨go, 0, none⟩) outs.length co) outs.length (strs outs) from ownsK HO5.out HWD7.out.k (fun g hg e => by have := HOA.out g hg; omega))
    have y0 := HWD7.out.cell (f := 0) (u := .int .i64 0) rfl
    have y1 := HWD7.out.cell (f := 1) (u := .slice none 0 0) rfl
    have y2 := HWD7.out.cell (f := 2) (u := .slice none 0 0) rfl
    have y3 := HWD7.out.cell (f := 3) (u := .int .i64 ed) rfl
    have y4 := HWD7.out.cell (f := 4) (u := .slice (some ⟨go, 0, none⟩) outs.length co) rfl
    have y5 := HWD7.out.cell (f := 5) (u := .slice AI is.length cI) rfl
    cases b
    · have HOB := Lib.hid (show OB w7 w2.heap.size ⟨0, ed, .slice none 0 0, .slice none 0 0, .slice (some ⟨go, 0, none⟩) outs.length co, .slice AI is.length cI, [], [], [], outs, is⟩ from { N := { own := none_row, len := rfl, lk := fun i l x h => (nomatch h), dis := fun i j l l' b _ h => (nomatch h), sep := fun i l b h => (nomatch h) }, S := none_row, O := HOW.out, I := owns_mono HWD7.out.I (by omega) })
      have HRK := Lib.hid ((HOB.out.rk HSX.out.small).mono hw2R)
      have hRW := HRR.out w7 HK7.out
      obtain ⟨z0, z1, z2, z3, z4, z5, f0, f1, f2, f3, f4, f5⟩ := row6f hRW
      clear hRW
      go_wp2_with fail
      have hf := draw6 (K' := K + 20000) (HRR.out w7 HK7.out) (HRK.out) (HC7.out) hpw (by omega) (HKX.out.trans HK7.out)
      (try simp only [Exit.inBlock, Exit.then])
      refine bodyPost_ret (results_cell_row rfl _ _ w.heap.size _ _ _ _ rfl hf.1 Tryz.underlying31 rfl (by kernel_rfl)) rfl ?_
      exact ⟨_, _, _, _, BX.g ⟨0, ed, .slice none 0 0, .slice none 0 0, .slice (some ⟨go, 0, none⟩) outs.length co, .slice AI is.length cI, [], [], [], outs, is⟩, rfl, hf.2.1, HSX.out.small, hf.2.2.1, hf.2.2.2⟩
    have HHM := Lib.hid (show Calls Tryz.prog 210 #[.pointer (some ⟨p, 0, none⟩), .agg #[.int .i64 0, .slice none 0 0, .slice none 0 0, .int .i64 ed, .slice (some ⟨go, 0, none⟩) outs.length co, .slice AI is.length cI]] w7 _ from harmed_any p w2.heap.size w3.heap.size w2.heap.size A bs c _ ⟨0, ed, .slice none 0 0, .slice none 0 0, .slice (some ⟨go, 0, none⟩) outs.length co, .slice AI is.length cI, [], [], [], outs, is⟩ none none (some ⟨go, 0, none⟩) AI 0 0 co cI w5 w7 { k := HWD7.out.k.mono (fun q hq => by omega), cur := HC7.out, box := HWD7.out.box, N := { own := none_row, len := rfl, lk := fun i l x h => (nomatch h), lt := fun i l b h => (nomatch h), dis := fun _ i j l l' b _ h => (nomatch h) }, S := none_row, O := HOW.out, I := owns_mono HWD7.out.I (by omega) } rfl rfl rfl rfl HSX.out (by omega) (by omega) (Nat.le_refl _) (by omega))
    go_wp2_with fail
    (with_reducible refine HHM.out.mono ?_)
    rintro e w9 ⟨nv', sv', ov', iv', g, rfl, hr9, hsm9, hC9, hK9⟩
    obtain ⟨AN', cN', AS', cS', AO', cO', AI', cI', rfl, rfl, rfl, rfl⟩ := hr9.now.form
    have HRK := Lib.hid (hr9.mono hw2R)
    have HSM := Lib.hid hsm9
    have HC9 := Lib.hid hC9
    have HK9 := Lib.hid (show Kept (fun q => q = p) w0 w9 from ⟨hK9.os.trans HK7.out.os, hK9.tape.trans HK7.out.tape, hK9.output.trans HK7.out.output, Nat.le_trans HK7.out.size hK9.size, fun b hb hn => (hK9.block b (by have := HK7.out.size; omega) (by have := HK2S.out; omega)).trans (HK7.out.block b hb hn)⟩)
    clear hr9 hsm9 hC9 hK9 HHM y0 y1 y2 y3 y4 y5
    have hRW := HRR.out w9 HK9.out
    obtain ⟨z0, z1, z2, z3, z4, z5, f0, f1, f2, f3, f4, f5⟩ := row6f hRW
    clear hRW
    go_wp2_with fail
    have hf := draw6 (K' := K + 20000) (HRR.out w9 HK9.out) (HRK.out) (HC9.out) hpw (by omega) (HKX.out.trans HK9.out)
    (try simp only [Exit.inBlock, Exit.then])
    refine bodyPost_ret (results_cell_row rfl _ _ w.heap.size _ _ _ _ rfl hf.1 Tryz.underlying31 rfl (by kernel_rfl)) rfl ?_
    exact ⟨_, _, _, _, g, rfl, hf.2.1, HSM.out, hf.2.2.1, hf.2.2.2⟩
  go_wp2_with fail
  clear y3 y4 hwr
  obtain rfl : is.length = j := HLN.out
  have hKW := keptP HK5.out HWD.out.k hP0
  have HKW := Lib.hid hKW
  have H1 := Lib.hid (one_any p A bs c K1 24 wr HWD.out.cur (by omega) (by omega))
  clear hKW
  go_wp2_with fail
  (with_reducible refine H1.out.mono ?_)
  rintro e w7 ⟨b, rfl, hc7, hk7⟩
  have HC7 := Lib.hid hc7
  have HK7 := Lib.hid (HKW.out.trans hk7)
  have HWD7 := Lib.hid (HWD.out.draw hpP hP5 hk7 hc7)
  have hsw7 := hk7.size
  have hsw5 := HWD.out.k.size
  clear hc7 hk7 H1
  have HSX := Lib.hid (show SX ⟨0, ed, .slice none 0 0, .slice none 0 0, .slice (some ⟨go, 0, none⟩) outs.length co, .slice AI is.length cI, [], [], [], outs, is⟩ from { nl := Nat.zero_le _, nd := fun x hx => (nomatch hx), sl := Nat.zero_le _, sb := fun x hx => (nomatch hx), ol := HOL.out.1, on := HOL.out.2, il := by show is.length ≤ 40; omega, ib := HIB.out, r := by show (-100 : Int) ≤ 0 ∧ (0 : Int) ≤ 100; omega, e := by show -100 ≤ ed ∧ ed ≤ 100; omega })
  have HOW := Lib.hid (show w7.ownsRow w2.heap.size 9 1 (.slice (some ⟨go, 0, none⟩) outs.length co) outs.length (strs outs) from ownsK HO5.out HWD7.out.k (fun g hg e => by have := HOA.out g hg; omega))
  have y0 := HWD7.out.cell (f := 0) (u := .int .i64 0) rfl
  have y1 := HWD7.out.cell (f := 1) (u := .slice none 0 0) rfl
  have y2 := HWD7.out.cell (f := 2) (u := .slice none 0 0) rfl
  have y3 := HWD7.out.cell (f := 3) (u := .int .i64 ed) rfl
  have y4 := HWD7.out.cell (f := 4) (u := .slice (some ⟨go, 0, none⟩) outs.length co) rfl
  have y5 := HWD7.out.cell (f := 5) (u := .slice AI is.length cI) rfl
  cases b
  · have HOB := Lib.hid (show OB w7 w2.heap.size ⟨0, ed, .slice none 0 0, .slice none 0 0, .slice (some ⟨go, 0, none⟩) outs.length co, .slice AI is.length cI, [], [], [], outs, is⟩ from { N := { own := none_row, len := rfl, lk := fun i l x h => (nomatch h), dis := fun i j l l' b _ h => (nomatch h), sep := fun i l b h => (nomatch h) }, S := none_row, O := HOW.out, I := owns_mono HWD7.out.I (by omega) })
    have HRK := Lib.hid ((HOB.out.rk HSX.out.small).mono hw2R)
    have hRW := HRR.out w7 HK7.out
    obtain ⟨z0, z1, z2, z3, z4, z5, f0, f1, f2, f3, f4, f5⟩ := row6f hRW
    clear hRW
    go_wp2_with fail
    have hf := draw6 (K' := K + 20000) (HRR.out w7 HK7.out) (HRK.out) (HC7.out) hpw (by omega) (HKX.out.trans HK7.out)
    (try simp only [Exit.inBlock, Exit.then])
    refine bodyPost_ret (results_cell_row rfl _ _ w.heap.size _ _ _ _ rfl hf.1 Tryz.underlying31 rfl (by kernel_rfl)) rfl ?_
    exact ⟨_, _, _, _, BX.g ⟨0, ed, .slice none 0 0, .slice none 0 0, .slice (some ⟨go, 0, none⟩) outs.length co, .slice AI is.length cI, [], [], [], outs, is⟩, rfl, hf.2.1, HSX.out.small, hf.2.2.1, hf.2.2.2⟩
  have HHM := Lib.hid (show Calls Tryz.prog 210 #[.pointer (some ⟨p, 0, none⟩), .agg #[.int .i64 0, .slice none 0 0, .slice none 0 0, .int .i64 ed, .slice (some ⟨go, 0, none⟩) outs.length co, .slice AI is.length cI]] w7 _ from harmed_any p w2.heap.size w3.heap.size w2.heap.size A bs c _ ⟨0, ed, .slice none 0 0, .slice none 0 0, .slice (some ⟨go, 0, none⟩) outs.length co, .slice AI is.length cI, [], [], [], outs, is⟩ none none (some ⟨go, 0, none⟩) AI 0 0 co cI w5 w7 { k := HWD7.out.k.mono (fun q hq => by omega), cur := HC7.out, box := HWD7.out.box, N := { own := none_row, len := rfl, lk := fun i l x h => (nomatch h), lt := fun i l b h => (nomatch h), dis := fun _ i j l l' b _ h => (nomatch h) }, S := none_row, O := HOW.out, I := owns_mono HWD7.out.I (by omega) } rfl rfl rfl rfl HSX.out (by omega) (by omega) (Nat.le_refl _) (by omega))
  go_wp2_with fail
  (with_reducible refine HHM.out.mono ?_)
  rintro e w9 ⟨nv', sv', ov', iv', g, rfl, hr9, hsm9, hC9, hK9⟩
  obtain ⟨AN', cN', AS', cS', AO', cO', AI', cI', rfl, rfl, rfl, rfl⟩ := hr9.now.form
  have HRK := Lib.hid (hr9.mono hw2R)
  have HSM := Lib.hid hsm9
  have HC9 := Lib.hid hC9
  have HK9 := Lib.hid (show Kept (fun q => q = p) w0 w9 from ⟨hK9.os.trans HK7.out.os, hK9.tape.trans HK7.out.tape, hK9.output.trans HK7.out.output, Nat.le_trans HK7.out.size hK9.size, fun b hb hn => (hK9.block b (by have := HK7.out.size; omega) (by have := HK2S.out; omega)).trans (HK7.out.block b hb hn)⟩)
  clear hr9 hsm9 hC9 hK9 HHM y0 y1 y2 y3 y4 y5
  have hRW := HRR.out w9 HK9.out
  obtain ⟨z0, z1, z2, z3, z4, z5, f0, f1, f2, f3, f4, f5⟩ := row6f hRW
  clear hRW
  go_wp2_with fail
  have hf := draw6 (K' := K + 20000) (HRR.out w9 HK9.out) (HRK.out) (HC9.out) hpw (by omega) (HKX.out.trans HK9.out)
  (try simp only [Exit.inBlock, Exit.then])
  refine bodyPost_ret (results_cell_row rfl _ _ w.heap.size _ _ _ _ rfl hf.1 Tryz.underlying31 rfl (by kernel_rfl)) rfl ?_
  exact ⟨_, _, _, _, g, rfl, hf.2.1, HSM.out, hf.2.2.1, hf.2.2.2⟩

end Go.Proofs.YtijkdpdmclkmlaaGreatDoor
