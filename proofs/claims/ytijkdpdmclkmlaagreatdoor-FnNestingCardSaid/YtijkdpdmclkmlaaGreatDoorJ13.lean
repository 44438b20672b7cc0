/- The draws of a signature. -/
import Derived.Test.YtijkdpdmclkmlaaGreatDoorProg
import Derived.Test.YtijkdpdmclkmlaaGreatDoorJ0
import Derived.Test.YtijkdpdmclkmlaaGreatDoorJ11
import Derived.Test.YtijkdpdmclkmlaaGreatDoorJ9
import Derived.Test.YtijkdpdmclkmlaaGreatDoorJ12
set_option linter.unusedSimpArgs false
set_option linter.unusedVariables false
set_option maxRecDepth 100000
set_option maxHeartbeats 16000000
namespace Go.Proofs.YtijkdpdmclkmlaaGreatDoor
open Go.RowKit
theorem cellsG {w : World} {g : Nat} {cs : List Value} {t : TypeId} {fr : Nat × Nat} (h : w.heap[g]? = some (.cells cs.toArray t fr)) : Cells w (some ⟨g, 0, none⟩) cs := fun j u hj => by
 refine ⟨g, 0, rfl, ?_⟩
 rw [Nat.zero_add, cell_of_row _ _ _ _ _ _ h]
 simpa using hj

theorem ofG_any (p : Nat) (A : Option Addr) (bs : List Int) (c K : Nat) (b0 : Nat) (d : Nat) (xs : List ByteArray) (w : World) (h : Cur w p A bs c K) (hK : K ≤ 100000000000000) (hx : 1 ≤ xs.length) (hx2 : xs.length ≤ 1000000000) (hB : Cells w (some ⟨b0, 0, none⟩) (strs xs)) (hBp : b0 ≠ p) :
  Calls Tryz.prog 113 #[.pointer (some ⟨p, 0, none⟩), .slice (some ⟨b0, 0, none⟩) xs.length d] w fun e w' => ∃ x, e = .returned (.string x) ∧ x ∈ xs ∧ Cur w' p A bs c (K + 2) ∧ Kept (fun q => q = p) w w' := by
 have H := Lib.hid (pick_any p A bs c K xs.length w h hK (by omega))
 have HB := Lib.hid hB
 clear h hB
 go_enter Tryz.func113, Tryz.ntmps113
 go_wp2_with fail
 (with_reducible refine H.out.mono ?_)
 rintro e w1 ⟨x, rfl, hx0, hx1, hC1, hK1⟩
 obtain ⟨j, rfl⟩ := Int.eq_ofNat_of_zero_le hx0
 have hj : j < xs.length := by have := hx1 (by omega); omega
 obtain ⟨b, o, eB, hc⟩ := HB.out j (.string (xs.getD j default)) (getElem?_strs xs j hj)
 cases eB
 have hcj := (World.cell?_of_block (a := ⟨b0, 0 + j, none⟩) (hK1.block b0 (lt_of_cell hc) hBp)).trans hc
 have HM := Lib.hid (show xs.getD j default ∈ xs from by simp [List.getD, hj])
 have HC1 := Lib.hid hC1
 have HK1 := Lib.hid hK1
 have q1 : (j : Int) < (xs.length : Int) := by omega
 rw [Nat.zero_add] at hcj
 clear hC1 hK1 hx1 hc
 generalize xs.getD j default = y at *
 go_wp2_with fail
 go_ret
 exact ⟨_, rfl, HM.out, HC1.out, HK1.out⟩

theorem el_ctG : El Tryz.prog 45 44 3 32 := El.mk' Tryz.underlying45 (by kernel_rfl : _ = some (some (.agg #[.string ⟨#[]⟩, .int .i64 0, .int .i64 0]), 3, 32)) rfl (by decide)

/-- A row of controls of one's own reads as that list. -/
theorem ct_rsl {w : World} {B : Nat} {e : TypeId} {v : Value} {l : List Ct} (h : w.ownsRow B e 3 v l.length (l.flatMap encCt)) (hn : l.length ≤ 1000) : RSl RCt 3 w v l := by
 obtain ⟨A, c, rfl, h⟩ := owns_form h
 refine ⟨A, c, l.map encCt, rfl, by unfold maxLen; omega, by simp, fun cs hc => ?_, ?_, fun i cs x h1 h2 => ?_⟩
 ·obtain ⟨x, _, rfl⟩ := List.mem_map.1 hc
  rfl
 ·have e : (l.map encCt).flatten = l.flatMap encCt := by rw [List.flatMap_def]
  rw [e]
  exact Cells.of_owns h
 rw [List.getElem?_map, h2] at h1
 simp at h1
 exact h1.symm
theorem owns_capOk {w : World} {B : Nat} {e : TypeId} {s n : Nat} {v : Value} {xs : List Value} (h : w.ownsRow B e s v n xs) : CapOk v := fun A m c hv => by
 rcases h.2 with ⟨rfl, _⟩ | ⟨g, cap, cur, rfl, _, _, h3, _⟩
 ·cases hv; omega
 cases hv; exact h3

/-- What is drawn for a signature. -/
structure DSig (w w' : World) (v : Value) (l : List Ct) : Prop where
 own : w'.ownsRow w.heap.size 44 3 v l.length (l.flatMap encCt)
 small : SmallS l
 ports : ∀ c ∈ l, c.2.1 ≤ 4

def sroom : ByteArray := ⟨#[114, 111, 111, 109]⟩
def skey : ByteArray := ⟨#[107, 101, 121]⟩
def sleaf : ByteArray := ⟨#[108, 101, 97, 102]⟩
def spair : ByteArray := ⟨#[112, 97, 105, 114]⟩
def sig4 (x : Int) : List Ct := [(sroom, 0, 0), (skey, 1, x), (sleaf, 1, 2), (spair, 2, 0)]
theorem sig4_ok (x : Int) (n : Nat) : SmallS ((sig4 x).take n) ∧ ∀ c ∈ (sig4 x).take n, c.2.1 ≤ 4 := by
 refine ⟨⟨by rw [List.length_take]; have : (sig4 x).length = 4 := rfl; omega, fun c hc => ?_⟩, fun c hc => ?_⟩
 ·have := List.mem_of_mem_take hc
  simp only [sig4, List.mem_cons, List.not_mem_nil, or_false] at this
  rcases this with rfl | rfl | rfl | rfl
  ·exact (by decide : sroom.size ≤ 1000)
  ·exact (by decide : skey.size ≤ 1000)
  ·exact (by decide : sleaf.size ≤ 1000)
  exact (by decide : spair.size ≤ 1000)
 have := List.mem_of_mem_take hc
 simp only [sig4, List.mem_cons, List.not_mem_nil, or_false] at this
 rcases this with rfl | rfl | rfl | rfl
 ·exact (by decide : (0 : Int) ≤ 4)
 ·exact (by decide : (1 : Int) ≤ 4)
 ·exact (by decide : (1 : Int) ≤ 4)
 exact (by decide : (2 : Int) ≤ 4)
theorem small_app {l m : List Ct} (h : SmallS l) (hl : l.length ≤ 10) (hm : m.length ≤ 10) (hn : ∀ c ∈ m, c.1.size ≤ 1000) : SmallS (l ++ m) :=
 ⟨by rw [List.length_append]; omega, fun c hc => by
  rcases List.mem_append.1 hc with h' | h'
  ·exact h.name c h'
  exact hn c h'⟩

theorem sig_any (p : Nat) (A : Option Addr) (bs : List Int) (c K : Nat) (w : World) (hC : Cur w p A bs c K) (hK : K ≤ 1000000000000) :
    Calls Tryz.prog 112 #[.pointer (some ⟨p, 0, none⟩)] w fun e w' => ∃ v l, e = .returned v ∧ DSig w w' v l ∧ Cur w' p A bs c (K + 20) ∧ Kept (fun q => q = p) w w' := by
  have hpw := hC.lt
  have H1 := Lib.hid (pick_any p A bs c K 2 w hC (by omega) (by omega))
  clear hC
  go_enter Tryz.func112, Tryz.ntmps112
  go_wp2_with fail
  (with_reducible refine H1.out.mono ?_)
  rintro e w1 ⟨x, rfl, hx0, hx1, hC1, hK1⟩
  obtain ⟨w2, hw2, hb2, -⟩ := laid1 w1 (.cells #[.string ⟨#[114, 111, 111, 109]⟩, .int .i64 0, .int .i64 0, .string ⟨#[107, 101, 121]⟩, .int .i64 1, .int .i64 x, .string ⟨#[108, 101, 97, 102]⟩, .int .i64 1, .int .i64 2, .string ⟨#[112, 97, 105, 114]⟩, .int .i64 2, .int .i64 0] 44)
  have ho2 : w2.ownsRow w1.heap.size 44 3 (.slice (some ⟨w1.heap.size, 0, none⟩) 4 4) 4 ((sig4 x).flatMap encCt) := by
    rw [hw2]; exact ownsNew w1 ((sig4 x).flatMap encCt) 44 3 4 rfl (by decide)
  have hs1 := hK1.size
  have HO2 := Lib.hid (owns_mono ho2 hs1)
  have HK2 := Lib.hid (hK1.trans (Kept.of_below hb2 _))
  have H2 := Lib.hid (pick_any p A bs c (K + 2) 3 w2 (hC1.below hb2) (by omega) (by omega))
  have HW2 := Lib.hid hw2
  clear ho2 hb2 hC1 hK1 hw2 hx1
  go_wp2_with fail
  rw [← HW2.out]
  (with_reducible refine H2.out.mono ?_)
  rintro e w3 ⟨y, rfl, hy0, hy1, hC3, hK3⟩
  have hyc : y = 0 ∨ y = 1 ∨ y = 2 := by have := hy1 (by omega); omega
  have HK3 := Lib.hid (HK2.out.trans hK3)
  have H3 := Lib.hid (pick_any p A bs c (K + 2 + 2) 40 w3 hC3 (by omega) (by omega))
  have HO3 := Lib.hid (show ∀ n, n ≤ 4 → w3.ownsRow w.heap.size 44 3 (.slice (some ⟨w1.heap.size, 0, none⟩) n 4) n (((sig4 x).flatMap encCt).take (n * 3)) from fun n hn => ownsTake (ownsK HO2.out hK3 (fun g hg e => by have := (HO2.out.lt g hg).1; omega)) hn)
  clear hC3 hK3 hy1 hy0
  obtain ⟨n, hyn, hn2, hn4⟩ : ∃ n : Nat, y = (n : Int) - 2 ∧ 2 ≤ n ∧ n ≤ 4 := ⟨(y + 2).toNat, by omega, by omega, by omega⟩
  have hyz : (2 : Int) + y = (n : Int) := by omega
  have HSL := Lib.hid (sig4_ok x n)
  have HFL := Lib.hid (show ((sig4 x).take n).flatMap encCt = ((sig4 x).flatMap encCt).take (n * 3) from by
    rcases (show n = 2 ∨ n = 3 ∨ n = 4 by omega) with rfl | rfl | rfl <;> rfl)
  have HLE := Lib.hid (show ((sig4 x).take n).length = n from by rw [List.length_take]; show min n 4 = n; omega)
  have HON := Lib.hid (HO3.out n hn4)
  clear hyn hyc HO3
  go_wp2_with fail
  (with_reducible refine H3.out.mono ?_)
  rintro e w4 ⟨z, rfl, hz0, hz1, hC4, hK4⟩
  have HC4 := Lib.hid hC4
  have HK4 := Lib.hid (HK3.out.trans hK4)
  have HO4 := Lib.hid (ownsK HON.out hK4 (fun g hg e => by have := (HON.out.lt g hg).1; omega))
  have hs4 := HK4.out.size
  have hp4 : p < w4.heap.size := by omega
  clear hC4 hK4 hz1
  by_cases c0 : z = 0
  · subst c0
    have HD := Lib.hid (show DSig w (w4.alloc (.cells #[] 44)) (.slice (some ⟨w4.heap.size, 0, none⟩) 0 0) [] from
      ⟨owns_mono (World.ownsRow_made w4 #[] 0 (Nat.le_refl _) (Nat.zero_le _) rfl) hs4, ⟨by simp, fun c hc => by simp at hc⟩, fun c hc => by simp at hc⟩)
    have hb := (Below.refl w4.heap.size w4).alloc (Nat.le_refl _) (.cells #[] 44)
    have HC5 := Lib.hid ((HC4.out.below hb).mono (K' := K + 20) (by omega))
    have HK5 := Lib.hid (HK4.out.trans (Kept.of_below hb _))
    clear hb
    go_wp2_with fail
    go_ret
    exact ⟨_, _, rfl, HD.out, HC5.out, HK5.out⟩
  have e0 : (z == 0) = false := by simpa using c0
  by_cases c1 : z = 1
  · subst c1
    obtain ⟨w5, hw5, hb5, -⟩ := laid1 w4 (.cells #[.string ⟨#[107, 101, 121]⟩, .string ⟨#[]⟩, .string ⟨#[75, 101, 121]⟩, .string ⟨#[114, 111, 111, 109, 115]⟩, .string ⟨#[108, 111, 99, 107]⟩] 9)
    have H5 := Lib.hid (show Calls Tryz.prog 113 #[.pointer (some ⟨p, 0, none⟩), .slice (some ⟨w4.heap.size, 0, none⟩) 5 5] w5 _ from
      ofG_any p A bs c _ w4.heap.size 5 [⟨#[107, 101, 121]⟩, ⟨#[]⟩, ⟨#[75, 101, 121]⟩, ⟨#[114, 111, 111, 109, 115]⟩, ⟨#[108, 111, 99, 107]⟩] w5 (HC4.out.below hb5) (by omega) (by decide) (by decide) (by rw [hw5]; exact cellsG (heap_alloc_new w4 _)) (by omega))
    have HK5 := Lib.hid (HK4.out.trans (Kept.of_below hb5 _))
    have HO5 := Lib.hid (owns_below HO4.out hb5 (Nat.le_refl _))
    have HW5 := Lib.hid hw5
    clear hb5 hw5
    go_wp2_with fail
    rw [← HW5.out]
    (with_reducible refine H5.out.mono ?_)
    rintro e w6 ⟨s, rfl, hs, hC6, hK6⟩
    have HSS := Lib.hid (show s.size ≤ 1000 from by
      simp only [List.mem_cons, List.not_mem_nil, or_false] at hs
      rcases hs with rfl | rfl | rfl | rfl | rfl <;> decide)
    have HK6 := Lib.hid (HK5.out.trans hK6)
    have HO6 := Lib.hid (ownsK HO5.out hK6 (fun g hg e => by have := (HO5.out.lt g hg).1; omega))
    have hs6 := HK6.out.size
    obtain ⟨w7, hw7, hb7, -⟩ := laid1 w6 (.cells #[.int .i64 0, .int .i64 3, .int .i64 4, .int .i64 (-1)] 3)
    have H7 := Lib.hid (show Calls Tryz.prog 88 #[.pointer (some ⟨p, 0, none⟩), .slice (some ⟨w6.heap.size, 0, none⟩) 4 4] w7 _ from
      among_any p A bs c _ (some ⟨w6.heap.size, 0, none⟩) 4 [0, 3, 4, -1] w7 (hC6.below hb7) (by omega) (by decide) (by decide) (by rw [hw7]; exact cellsG (cs := ints [0, 3, 4, -1]) (heap_alloc_new w6 _)) (fun b o e => by cases e; omega))
    have HK7 := Lib.hid (HK6.out.trans (Kept.of_below hb7 _))
    have HO7 := Lib.hid (owns_below HO6.out hb7 (Nat.le_refl _))
    have HW7 := Lib.hid hw7
    clear hb7 hw7 hC6 hK6 hs
    go_wp2_with fail
    rw [← HW7.out]
    (with_reducible refine H7.out.mono ?_)
    rintro e w8 ⟨pa, rfl, hpa, hC8, hK8⟩
    have HPA := Lib.hid (show pa ≤ 4 from by
      simp only [List.mem_cons, List.not_mem_nil, or_false] at hpa
      rcases hpa with rfl | rfl | rfl | rfl <;> decide)
    have HK8 := Lib.hid (HK7.out.trans hK8)
    have HO8 := Lib.hid (ownsK HO7.out hK8 (fun g hg e => by have := (HO7.out.lt g hg).1; omega))
    have hs8 := HK8.out.size
    obtain ⟨w9, hw9, hb9, -⟩ := laid1 w8 (.cells #[.int .i64 0, .int .i64 1, .int .i64 2, .int .i64 3, .int .i64 (-1)] 3)
    have H9 := Lib.hid (show Calls Tryz.prog 88 #[.pointer (some ⟨p, 0, none⟩), .slice (some ⟨w8.heap.size, 0, none⟩) 5 5] w9 _ from
      among_any p A bs c _ (some ⟨w8.heap.size, 0, none⟩) 5 [0, 1, 2, 3, -1] w9 (hC8.below hb9) (by omega) (by decide) (by decide) (by rw [hw9]; exact cellsG (cs := ints [0, 1, 2, 3, -1]) (heap_alloc_new w8 _)) (fun b o e => by cases e; omega))
    have HK9 := Lib.hid (HK8.out.trans (Kept.of_below hb9 _))
    have HO9 := Lib.hid (owns_below HO8.out hb9 (Nat.le_refl _))
    have HW9 := Lib.hid hw9
    clear hb9 hw9 hC8 hK8 hpa
    go_wp2_with fail
    rw [← HW9.out]
    (with_reducible refine H9.out.mono ?_)
    rintro e w10 ⟨kd, rfl, _, hC10, hK10⟩
    have HK10 := Lib.hid (HK9.out.trans hK10)
    have HO10 := Lib.hid (ownsK HO9.out hK10 (fun g hg e => by have := (HO9.out.lt g hg).1; omega))
    have hs10 := HK10.out.size
    have HC10 := Lib.hid hC10
    clear hC10 hK10
    go_wp2_with (at_builtin; refine wpList_app el_ctG rfl _ _ rfl w.heap.size _ _ _ rfl HO10.out [.string s, .int .i64 pa, .int .i64 kd] rfl rfl rfl (by intro u hu; simp at hu; rcases hu with rfl | rfl | rfl <;> rfl) (by omega) hs10 ?_; intro v2 w11 ho hk2 hm2)
    have hpO : ∀ q, (Value.slice (some ⟨w1.heap.size, 0, none⟩) n 4).ownBlock = some q → p < q := fun q hq => by have := (HO10.out.lt q hq).1; omega
    have HD := Lib.hid (show DSig w w11 v2 ((sig4 x).take n ++ [(s, pa, kd)]) from
      ⟨by
        rw [List.length_append, HLE.out, List.flatMap_append, HFL.out]
        exact ho, small_app HSL.out.1 (by rw [HLE.out]; omega) (by simp) (fun c hc => by simp at hc; subst hc; exact HSS.out), fun c hc => by
        rcases List.mem_append.1 hc with h | h
        · exact HSL.out.2 c h
        simp at h; subst h; exact HPA.out⟩)
    have HC11 := Lib.hid ((HC10.out.kept hk2 hpO).mono (K' := K + 20) (by omega))
    have HK11 := Lib.hid (show Kept (fun q => q = p) w w11 from ⟨hk2.os.trans HK10.out.os, hk2.tape.trans HK10.out.tape, hk2.output.trans HK10.out.output, Nat.le_trans hs10 hk2.size, fun b hb hn => (hk2.block b (by omega) (fun e => by have := (HO10.out.lt b e).1; omega)).trans (HK10.out.block b hb hn)⟩)
    clear ho hk2 hm2
    go_wp2_with fail
    go_ret
    exact ⟨_, _, rfl, HD.out, HC11.out, HK11.out⟩
  have e1 : (z == 1) = false := by simpa using c1
  by_cases c2 : z = 2
  · subst c2
    obtain ⟨w5, hw5, hb5, -⟩ := laid1 w4 (.cells #[.string ⟨#[120]⟩, .int .i64 0, .int .i64 0, .string ⟨#[121]⟩, .int .i64 0, .int .i64 0] 44)
    have HK5 := Lib.hid (HK4.out.trans (Kept.of_below hb5 _))
    have HO5 := Lib.hid (owns_below HO4.out hb5 (Nat.le_refl _))
    have hcl : ∀ j u, [Value.string ⟨#[120]⟩, .int .i64 0, .int .i64 0, .string ⟨#[121]⟩, .int .i64 0, .int .i64 0][j]? = some u → w5.cell? ((⟨w4.heap.size, 0, none⟩ : Addr).add j) = some u := fun j u hj => by
      have e : (⟨w4.heap.size, 0, none⟩ : Addr).add j = ⟨w4.heap.size, j, none⟩ := by simp [Addr.add, eq_comm]
      rw [e, hw5, cell_of_row _ _ _ _ _ _ (heap_alloc_new w4 _)]
      simpa using hj
    have HCL := Lib.hid hcl
    have HC5 := Lib.hid (HC4.out.below hb5)
    have hs5 := HK5.out.size
    have HW5 := Lib.hid hw5
    clear hb5 hw5 hcl
    go_wp2_with (at_builtin; first
      | (rw [← HW5.out]
         refine wpList_apps el_ctG rfl _ _ rfl w.heap.size _ _ _ rfl HO5.out ⟨w4.heap.size, 0, none⟩ 2 2 [.string ⟨#[120]⟩, .int .i64 0, .int .i64 0, .string ⟨#[121]⟩, .int .i64 0, .int .i64 0] rfl (by decide) rfl HCL.out (by intro u hu; simp at hu; rcases hu with rfl | rfl | rfl | rfl | rfl | rfl <;> rfl) (by omega) hs5 ?_
         intro v2 w6 ho hk2 hm2
         obtain ⟨A6, c6, rfl, ho⟩ := owns_form ho
         have HO6 := Lib.hid ho
         have hK6 : Kept (fun q => q = p) w w6 := ⟨hk2.os.trans HK5.out.os, hk2.tape.trans HK5.out.tape, hk2.output.trans HK5.out.output, Nat.le_trans hs5 hk2.size, fun b hb hn => (hk2.block b (by omega) (fun e => by have := (HO5.out.lt b e).1; omega)).trans (HK5.out.block b hb hn)⟩
         have HK6 := Lib.hid hK6
         have HC6 := Lib.hid (HC5.out.kept hk2 (fun q hq => by have := (HO5.out.lt q hq).1; omega))
         have hs6 := hK6.size
         clear ho hk2 hm2 hK6)
      | (refine wpList_app el_ctG rfl _ _ rfl w.heap.size _ _ _ rfl HO6.out [.string ⟨#[122]⟩, .int .i64 0, .int .i64 0] rfl rfl rfl (by intro u hu; simp at hu; rcases hu with rfl | rfl | rfl <;> rfl) (by omega) hs6 ?_
         intro v3 w7 ho hk3 hm3))
    have HD := Lib.hid (show DSig w w7 v3 (((sig4 x).take n ++ [(⟨#[120]⟩, 0, 0), (⟨#[121]⟩, 0, 0)]) ++ [(⟨#[122]⟩, 0, 0)]) from
      ⟨by
        rw [List.length_append, List.length_append, HLE.out, List.flatMap_append, List.flatMap_append, HFL.out]
        exact ho, small_app (small_app HSL.out.1 (by rw [HLE.out]; omega) (by simp) (fun c hc => by simp at hc; rcases hc with rfl | rfl <;> decide)) (by rw [List.length_append, HLE.out]; simp; omega) (by simp) (fun c hc => by simp at hc; subst hc; decide), fun c hc => by
        rcases List.mem_append.1 hc with h | h
        · rcases List.mem_append.1 h with h | h
          · exact HSL.out.2 c h
          simp at h; rcases h with rfl | rfl <;> decide
        simp at h; subst h; decide⟩)
    have HC7 := Lib.hid ((HC6.out.kept hk3 (fun q hq => by have := (HO6.out.lt q hq).1; omega)).mono (K' := K + 20) (by omega))
    have HK7 := Lib.hid (show Kept (fun q => q = p) w w7 from ⟨hk3.os.trans HK6.out.os, hk3.tape.trans HK6.out.tape, hk3.output.trans HK6.out.output, Nat.le_trans hs6 hk3.size, fun b hb hn => (hk3.block b (by omega) (fun e => by have := (HO6.out.lt b e).1; omega)).trans (HK6.out.block b hb hn)⟩)
    clear ho hk3 hm3
    go_wp2_with fail
    go_ret
    exact ⟨_, _, rfl, HD.out, HC7.out, HK7.out⟩
  have e2 : (z == 2) = false := by simpa using c2
  have HD := Lib.hid (show DSig w w4 (.slice (some ⟨w1.heap.size, 0, none⟩) n 4) ((sig4 x).take n) from ⟨by rw [HLE.out, HFL.out]; exact HO4.out, HSL.out.1, HSL.out.2⟩)
  have HC5 := Lib.hid (HC4.out.mono (K' := K + 20) (by omega))
  go_wp2_with fail
  go_ret
  exact ⟨_, _, rfl, HD.out, HC5.out, HK4.out⟩

end Go.Proofs.YtijkdpdmclkmlaaGreatDoor
