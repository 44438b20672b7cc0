/- The draws of a bigraph: until it is harmed. -/
import Derived.Test.YtijkdpdmclkmlaaGreatDoorProg
import Derived.Test.YtijkdpdmclkmlaaGreatDoorJ0
import Derived.Test.YtijkdpdmclkmlaaGreatDoorJ4
import Derived.Test.YtijkdpdmclkmlaaGreatDoorJ46
import Derived.Test.YtijkdpdmclkmlaaGreatDoorJ35
import Derived.Deep.CutBlock
set_option linter.unusedSimpArgs false
set_option linter.unusedVariables false
set_option maxRecDepth 100000
set_option maxHeartbeats 16000000
namespace Go.Proofs.YtijkdpdmclkmlaaGreatDoor
open Go.RowKit
theorem kb_step {KB KA k : Nat} (h : KB ≤ KA + 50 + 40 * k) : KB + 30 ≤ KA + 50 + 40 * (k + 1) := by omega
theorem kb_fin {KB KA K k q : Nat} (h : KB ≤ KA + 50 + 40 * k) (hk : k ≤ 4) (h2 : KA ≤ K + 200 + 300 * q) : KB ≤ K + 200 + 300 * (q + 1) := by omega
theorem ms_step {n q : Nat} (h : q < n) : n - (q + 1) < n - q := by omega
theorem app_room {n bytes : Nat} (h : n ≤ 20) (hb : bytes ≤ 100) : (n + 1) * bytes ≤ 140737488355328 ∧ n ≤ 4611686018427387904 := by
 refine ⟨?_, by omega⟩
 have := Nat.mul_le_mul (show n + 1 ≤ 21 by omega) hb
 omega

theorem kb_ok {KB K : Nat} (h : KB ≤ K + 7000 + 50 * (4 + 4)) (hK : K ≤ 1000000000000) : KB ≤ 10000000000000 := by omega
theorem kb_fin2 {KB K : Nat} (h : KB ≤ K + 7000 + 50 * (4 + 4)) : KB + 3100 ≤ K + 20000 := by omega
theorem res_kept {n p P B : Nat} {w0 wN wq wr : World} {o : Obj} (h : w0.heap[n]? = some o) (k1 : Kept (fun q => q = p) w0 wN) (k2 : Kept (fun q => q = p ∨ q = P ∨ B ≤ q) wN wq) (k3 : Kept (fun q => q = p ∨ q = P ∨ B ≤ q) wq wr) (hp : p ≠ n) (hP : n < P) (hB : n < B) : wr.heap[n]? = some o := by
 have l0 := (Array.getElem?_eq_some_iff.1 h).1
 have l1 := k1.size
 have l2 := k2.size
 have h1 := (k1.block n l0 (by omega)).trans h
 have h2 := (k2.block n (by omega) (by omega)).trans h1
 exact (k3.block n (by omega) (by omega)).trans h2
theorem res_kept2 {n p B : Nat} {wr w9 : World} {o : Obj} (h : wr.heap[n]? = some o) (k : Kept (fun q => q = p ∨ B ≤ q) wr w9) (hp : p ≠ n) (hB : n < B) : w9.heap[n]? = some o :=
 (k.block n (Array.getElem?_eq_some_iff.1 h).1 (by omega)).trans h
theorem rk_fin {n B : Nat} {w9 W : World} {nv sv ov iv : Value} {g : Gr} (h : RKS B w9 nv sv ov iv g) (k : Kept (fun q => q = n) w9 W) (hB : n < B) : RKS n W nv sv ov iv g := (h.kept (k.mono fun q hq => by omega)).mono (by omega)
theorem cur_fin {n p K K' c : Nat} {A : Option Addr} {bs : List Int} {w9 W : World} (h : Cur w9 p A bs c K) (k : Kept (fun q => q = n) w9 W) (hp : p < n) (hK : K ≤ K') : Cur W p A bs c K' := (h.kept k (fun q hq => by omega)).mono hK
theorem bg_kept {p P B : Nat} {w w0 wN wq wr w9 W : World} (k0 : Below w.heap.size w w0) (k1 : Kept (fun q => q = p) w0 wN) (k2 : Kept (fun q => q = p ∨ q = P ∨ B ≤ q) wN wq) (k3 : Kept (fun q => q = p ∨ q = P ∨ B ≤ q) wq wr) (k4 : Kept (fun q => q = p ∨ B ≤ q) wr w9) (k5 : Kept (fun q => q = w.heap.size) w9 W) (hP : w.heap.size < P) (hB : w.heap.size < B) : Kept (fun q => q = p) w W := by
 have a1 : Kept (fun q => q = p ∨ w.heap.size ≤ q) w w0 := Kept.of_below k0 _
 have a2 := a1.trans (k1.mono fun q hq => .inl hq)
 have a3 := a2.trans (k2.mono fun q hq => by omega)
 have a4 := a3.trans (k3.mono fun q hq => by omega)
 have a5 := a4.trans (k4.mono fun q hq => by omega)
 have a6 := a5.trans (k5.mono fun q hq => by omega)
 exact ⟨a6.os, a6.tape, a6.output, a6.size, fun q hq hn => a6.block q hq (by omega)⟩

/-- The bigraph while its sites and its inner names are drawn. -/
structure LZ (K sl : Nat) (r ed : Int) (Z : BX) (ks ki KB : Nat) : Prop where
 kb : KB ≤ K + 7000 + 50 * (ks + ki)
 r : Z.r = r
 e : Z.e = ed
 nl : Z.ns.length ≤ 20
 nd : ∀ x ∈ Z.ns, (∃ j : Nat, x.1 = (j : Int) ∧ j < sl) ∧ -10 ≤ x.2.1 ∧ x.2.1 ≤ 30 ∧ x.2.2.length ≤ 4
 ol : Z.os.length ≤ 4
 on : ∀ s ∈ Z.os, s.size ≤ 10
 sl : Z.ss.length ≤ ks
 il : Z.is.length ≤ ki
 sb : ∀ x ∈ Z.ss, -10 ≤ x
 ib : ∀ x ∈ Z.is, x.1.size ≤ 10

section
variable {K sl ks ki KB KC : Nat} {r ed : Int} {Z : BX}
theorem LZ.sx (h : LZ K sl r ed Z ks ki KB) (hk : ks ≤ 10) (hi : ki ≤ 10) (hr : 0 ≤ r ∧ r ≤ 3) (he : 0 ≤ ed ∧ ed ≤ 2) : SX Z :=
  { nl := Nat.le_trans h.nl (by decide), nd := fun x hx => ⟨by have := (h.nd x hx).2.1; omega, Nat.le_trans (h.nd x hx).2.2.2 (by decide)⟩, sl := Nat.le_trans h.sl (by omega), sb := fun x hx => by have := h.sb x hx; omega
    ol := Nat.le_trans h.ol (by decide), on := fun x hx => Nat.le_trans (h.on x hx) (by decide), il := Nat.le_trans h.il (by omega), ib := fun x hx => Nat.le_trans (h.ib x hx) (by decide), r := by rw [h.r]; omega, e := by rw [h.e]; omega }
theorem LZ.noS (h : LZ K sl r ed Z ks ki KB) (hk : KC ≤ KB + 50) : LZ K sl r ed Z (ks + 1) ki KC := { h with kb := by have := h.kb; omega, sl := by have := h.sl; omega }
theorem LZ.noI (h : LZ K sl r ed Z ks ki KB) (hk : KC ≤ KB + 50) : LZ K sl r ed Z ks (ki + 1) KC := { h with kb := by have := h.kb; omega, il := by have := h.il; omega }
theorem LZ.site (h : LZ K sl r ed Z ks ki KB) (hk : KC ≤ KB + 50) {v : Value} {x : Int} (hx : -10 ≤ x) : LZ K sl r ed { Z with sv := v, ss := Z.ss ++ [x] } (ks + 1) ki KC :=
  { h with kb := by have := h.kb; omega, sl := by have := h.sl; rw [List.length_append]; simp; omega, sb := fun y hy => (List.mem_append.1 hy).elim (h.sb y) (fun h' => by simp at h'; subst h'; exact hx) }
theorem LZ.wire (h : LZ K sl r ed Z ks ki KB) (hk : KC ≤ KB + 50) {v : Value} {x : Wi} (hx : x.1.size ≤ 10) : LZ K sl r ed { Z with iv := v, is := Z.is ++ [x] } ks (ki + 1) KC :=
  { h with kb := by have := h.kb; omega, il := by have := h.il; rw [List.length_append]; simp; omega, ib := fun y hy => (List.mem_append.1 hy).elim (h.ib y) (fun h' => by simp at h'; subst h'; exact hx) }
end

def X0 (r e : Int) : BX := ⟨r, e, .slice none 0 0, .slice none 0 0, .slice none 0 0, .slice none 0 0, [], [], [], [], []⟩

theorem bigraph_any (p : Nat) (A : Option Addr) (bs : List Int) (c K m Bs : Nat) (gv : Value) (sig : List Ct) (w : World) (hC : Cur w p A bs c K) (hK : K ≤ 1000000000000) (hm : m ≤ 20) (hpS : p < Bs) (hS : w.ownsRow Bs 44 3 gv sig.length (sig.flatMap encCt)) (hsz : SmallS sig) (hpt : ∀ c ∈ sig, c.2.1 ≤ 4) :
    Calls Tryz.prog 137 #[.pointer (some ⟨p, 0, none⟩), gv, .int .i64 m] w fun e w' => ∃ nv sv ov iv g, e = .returned (.agg #[.int .i64 g.roots, nv, sv, .int .i64 g.edges, ov, iv]) ∧ RKS w.heap.size w' nv sv ov iv g ∧ SmallG g ∧ Cur w' p A bs c (K + 20000) ∧ Kept (fun q => q = p) w w' := by
  have hpw := hC.lt
  have hsl := hsz.len
  obtain ⟨AG, cG, rfl, hS⟩ := owns_form hS
  obtain ⟨w0, hw0, hb0, hsw0, hR0, -⟩ := laid2 w (.cells #[.int .i64 0, .slice none 0 0, .slice none 0 0, .int .i64 0, .slice none 0 0, .slice none 0 0] 31) (.cells #[.int .i64 1, .int .i64 1, .int .i64 2, .int .i64 0, .int .i64 3] 3)
  have hl0 : w0.heap[w.heap.size + 1]? = some (.cells (ints [1, 1, 2, 0, 3]).toArray 3) := by
    have := heap_alloc_new (w.alloc (.cells #[.int .i64 0, .slice none 0 0, .slice none 0 0, .int .i64 0, .slice none 0 0, .slice none 0 0] 31)) (.cells (ints [1, 1, 2, 0, 3]).toArray 3)
    rw [World.size_alloc] at this
    rw [hw0]; exact this
  have H1 := Lib.hid (show Calls Tryz.prog 88 #[.pointer (some ⟨p, 0, none⟩), .slice (some ⟨w.heap.size + 1, 0, none⟩) 5 5] w0 _ from
    among_any p A bs c K (some ⟨w.heap.size + 1, 0, none⟩) 5 [1, 1, 2, 0, 3] w0 (hC.below hb0) (by omega) (by decide) (by decide) (cellsG hl0) (fun b o e => by cases e; omega))
  have HW0 := Lib.hid hw0
  have HB0 := Lib.hid hb0
  have HR0 := Lib.hid hR0
  have HS := Lib.hid hS
  clear hC hw0 hb0 hl0 hR0 hS
  go_enter Tryz.func137, Tryz.ntmps137
  go_wp2_with fail
  rw [← HW0.out]
  (with_reducible refine H1.out.mono ?_)
  rintro e w1 ⟨r, rfl, hr, hC1, hK1⟩
  have hr3 : 0 ≤ r ∧ r ≤ 3 := by
    simp only [List.mem_cons, List.not_mem_nil, or_false] at hr
    rcases hr with rfl | rfl | rfl | rfl | rfl <;> decide
  have H2 := Lib.hid (pick_any p A bs c (K + 2) 3 w1 hC1 (by omega) (by omega))
  have HK1 := Lib.hid hK1
  have hs1 := hK1.size
  clear hr hC1 hK1
  go_wp2_with fail
  (with_reducible refine H2.out.mono ?_)
  rintro e w2 ⟨ed, rfl, he0, he1, hC2, hK2⟩
  have he2 : ed ≤ 2 := by have := he1 (by omega); omega
  have HC2 := Lib.hid hC2
  have HK2 := Lib.hid (HK1.out.trans hK2)
  have hs2 := hK2.size
  clear hC2 hK2 he1
  have hwP : w.heap.size < w2.heap.size := by omega
  have hwB : w.heap.size < w2.heap.size + 1 + 1 := by omega
  have hpwn : p ≠ w.heap.size := by omega
  go_wp2_with fail
  obtain ⟨wN, hwN, hbN, hsN, -, hnm⟩ := laid2 w2 (.cells #[.int .i64 r, .slice none 0 0, .slice none 0 0, .int .i64 ed, .slice none 0 0, .slice none 0 0] 31) (.cells #[.string ⟨#[97]⟩, .string ⟨#[98]⟩, .string ⟨#[120]⟩, .string ⟨#[121]⟩] 9)
  have hbx : wN.heap[w2.heap.size]? = some (.cells (X0 r ed).cells 31) := by rw [hwN]; exact (heap_alloc_old _ _ (by simp)).trans (heap_alloc_new _ _)
  have hpP : p < w2.heap.size := by omega
  have hpB : p < w2.heap.size + 1 + 1 := by omega
  have HG0 := Lib.hid (show GS wN p (w2.heap.size + 1 + 1) w2.heap.size (w2.heap.size + 1 + 1) A bs c true (X0 r ed).cells (X0 r ed) (K + 2 + 2) wN from
    { k := Kept.refl _ _, cur := HC2.out.below hbN, box := hbx, N := { own := none_row, len := rfl, lk := fun i l x h => by simp [X0] at h, lt := fun i l b h => by simp [X0] at h, dis := fun _ i j l l' b _ h => by simp [X0] at h }, S := none_row, O := none_row, I := none_row })
  have HNM := Lib.hid (show ∀ W, Kept (fun q => q = p ∨ q = w2.heap.size ∨ w2.heap.size + 1 + 1 ≤ q) wN W → W.heap[w2.heap.size + 1]? = some (.cells #[.string ⟨#[97]⟩, .string ⟨#[98]⟩, .string ⟨#[120]⟩, .string ⟨#[121]⟩] 9) from fun W hk => (hk.block _ (by omega) (by omega)).trans hnm)
  have HWN := Lib.hid hwN
  have HKN := Lib.hid (HK2.out.trans (Kept.of_below hbN _))
  have HSIG := Lib.hid (show ∀ W, Kept (fun q => q = p ∨ q = w2.heap.size ∨ w2.heap.size + 1 + 1 ≤ q) wN W → RSl RCt 3 W (.slice AG sig.length cG) sig from fun W hk => by
    have h1 := ownsK (owns_below HS.out HB0.out (Nat.le_refl _)) HKN.out (fun g hg e => by have := (HS.out.lt g hg).1; omega)
    exact ct_rsl (ownsK h1 hk (fun g hg e => by have := HS.out.lt g hg; omega)) hsl)
  clear hwN hbN hbx hnm
  rw [← HWN.out]
  go_loopw [9] (fun i wr => ∃ (k : Nat) (X : BX) (K1 : Nat), k ≤ 4 ∧ i = .int .i64 k ∧ K1 ≤ K + 10 + 30 * k ∧ X = { X0 r ed with ov := X.ov, os := X.os } ∧ X.os.length ≤ k ∧ (∀ s ∈ X.os, s.size ≤ 10) ∧ GS wN p (w2.heap.size + 1 + 1) w2.heap.size (w2.heap.size + 1 + 1) A bs c true X.cells X K1 wr)
    (fun i _ => 4 - (intOf i).toNat)
  case atStart => exact ⟨0, X0 r ed, _, by omega, rfl, by omega, rfl, Nat.zero_le _, fun s hs => by simp [X0] at hs, HG0.out⟩
  obtain ⟨k, X, K1, hk, rfl, hK1, hX, hol, hon, hG⟩ := hrel
  by_cases hlt : k < 4
  · have HO := Lib.hid (one_any p A bs c K1 3 wr hG.cur (by omega) (by omega))
    have HG := Lib.hid hG
    have HX := Lib.hid hX
    have HON := Lib.hid hon
    clear hG hX hon
    go_wp2_with fail
    (with_reducible refine HO.out.mono ?_)
    rintro e w3 ⟨b, rfl, hC3, hK3⟩
    have HG3 := Lib.hid (HG.out.draw hpB (Nat.le_refl _) hpP hK3 hC3)
    clear hC3 hK3
    cases b
    · go_wp2_with fail
      go_roundw
      case rel => exact ⟨k + 1, X, K1 + 2, by omega, by go_num, by omega, HX.out, by omega, HON.out, HG3.out⟩
      case measure => simp [intOf]; omega
    obtain ⟨s, hs⟩ : ∃ s, s = (strs [⟨#[97]⟩, ⟨#[98]⟩, ⟨#[120]⟩, ⟨#[121]⟩]).getD k undef := ⟨_, rfl⟩
    have v0 : (0 : Int) ≤ (k : Int) := by omega
    have v1 : (k : Int) < 4 := by omega
    obtain ⟨t, ht⟩ : ∃ t : ByteArray, t = [⟨#[97]⟩, ⟨#[98]⟩, ⟨#[120]⟩, ⟨#[121]⟩].getD k default := ⟨_, rfl⟩
    have HTZ := Lib.hid (show t.size ≤ 10 from by
      rcases (show k = 0 ∨ k = 1 ∨ k = 2 ∨ k = 3 by omega) with rfl | rfl | rfl | rfl <;> (subst ht; decide))
    have HNK := Lib.hid (show ∀ W, Kept (fun q => q = p ∨ q = w2.heap.size ∨ w2.heap.size + 1 + 1 ≤ q) wN W → W.cell? ⟨w2.heap.size + 1, k, none⟩ = some (.string t) from fun W hk => by
      rw [cell_of_row _ _ _ _ _ _ (HNM.out W hk), ht]
      rcases (show k = 0 ∨ k = 1 ∨ k = 2 ∨ k = 3 by omega) with rfl | rfl | rfl | rfl <;> rfl)
    clear hs ht s
    go_wp2_with fail
    refine wp_region_dc (by kernel_rfl) (fun L act W => ∃ (g6 : Nat) (v : Value), act = ⟨#[.pointer (some ⟨p, 0, none⟩), .slice AG sig.length cG, .int .i64 (m : Int), undef, undef, undef, .pointer (some ⟨w.heap.size, 0, none⟩), .pointer (some ⟨w2.heap.size, 0, none⟩), .slice (some ⟨w2.heap.size + 1, 0, none⟩) 4 4, .int .i64 (k : Int), undef, undef, undef, undef, undef, undef, undef, undef, undef, .pointer (some ⟨p, 0, none⟩), .slice (some ⟨w.heap.size + 1, 0, none⟩) 5 5, .int .i64 r, .pointer (some ⟨p, 0, none⟩), .int .i64 ed, .agg #[.int .i64 r, .slice none 0 0, .slice none 0 0, .int .i64 ed, .slice none 0 0, .slice none 0 0], .slice (some ⟨w2.heap.size + 1, 0, none⟩) 4 4, .int .i64 (k : Int), .slice (some ⟨w2.heap.size + 1, 0, none⟩) 4 4, .int .i64 4, .bool true, u30, u31, .pointer (some ⟨p, 0, none⟩), .bool true, bsel (L 0) (.pointer (some ⟨w2.heap.size, 4, none⟩)) (u34), bsel (L 1) (X.ov) (u35), bsel (L 2) (.slice (some ⟨w2.heap.size + 1, 0, none⟩) 4 4) (u36), bsel (L 3) (.int .i64 (k : Int)) (u37), bsel (L 4) (.pointer (some ⟨w2.heap.size + 1, k, none⟩)) (u38), bsel (L 5) (.string t) (u39), bsel (L 6) (.slice (some ⟨g6, 0, none⟩) 1 1) (u40), bsel (L 7) (v) (u41), bsel (L 8) (.pointer (some ⟨w2.heap.size, 4, none⟩)) (u42), undef, undef, undef, undef, undef, undef, undef, undef, undef, undef, undef, undef, undef, undef, undef, undef, undef, undef, undef, undef, undef, undef, undef, undef, undef, undef, undef, undef, undef, undef, undef, undef, undef, undef, undef, undef, undef, undef, undef, undef, undef, undef, undef, undef, undef, undef, undef, undef, undef, undef, undef, undef, undef, undef, undef, undef, undef, undef, undef, undef, undef, undef, undef, undef, undef, undef, undef, undef, undef, undef, undef, undef, undef, undef, undef, undef, undef, undef, undef, undef, undef, undef, undef, undef, undef, undef, undef, undef, undef, undef, undef, undef, undef, undef, undef, undef, undef, undef, undef, undef, undef, undef, undef, undef, undef, undef, undef, undef, undef, undef, undef, undef, undef, undef, undef, undef, undef, undef, undef, undef, undef, undef, undef, undef, undef, undef, undef, undef, undef, undef, undef, undef, undef, undef, undef, undef, undef, undef, undef, undef, undef, undef, undef, undef, undef, undef, undef, undef, undef, undef, undef, undef, undef, undef, undef, undef, undef, undef, undef, undef, undef, undef, undef, undef, undef], []⟩ ∧ RF p (w2.heap.size + 1 + 1) (K1 + 2) 10 7 9 (fun K2 W => GS wN p (w2.heap.size + 1 + 1) w2.heap.size (w2.heap.size + 1 + 1) A bs c true X.cells X K2 W) (fun v W => GS wN p (w2.heap.size + 1 + 1) w2.heap.size (w2.heap.size + 1 + 1) A bs c true X.cells { X with ov := v, os := X.os ++ [t] } (K1 + 2 + 20) W) (fun W => ∃ z, GS wN p (w2.heap.size + 1 + 1) w2.heap.size (w2.heap.size + 1 + 1) A bs c true (BX.cells { X with ov := z, os := X.os ++ [t] }) { X with ov := z, os := X.os ++ [t] } (K1 + 2 + 20) W) [(6, g6, .cells #[.string t] 9)] L v W) ?h10 ?s1t ?f1i
    case h10 => exact ⟨0, undef, rfl, RF.start (HG3.out.drew)⟩
    case s1t =>
      as_aux_lemma =>
        intro L act W q oo hJ hC hL ho hd K3 hK3
        obtain ⟨g6, v, rfl, hF⟩ := hJ
        match q, ho with
        | 0, ho | 2, ho | 3, ho | 4, ho | 8, ho =>
          cases ho
          simp [Region.binds] at hd
          try simp only [hd, bsel_t]
          have HF := Lib.hid hF
          clear hF hC
          go_simp
          exact hK3 _ _ ⟨g6, v, by first | (simp [upd, bsel]; done) | simp [upd, bsel, hd], HF.out.pure hL (by decide) (by decide) (by simp)⟩
        | 1, ho =>
          cases ho
          simp [Region.binds] at hd
          have n7 : L 7 = false := dc_no hC hL (by kernel_rfl)
          obtain ⟨K2, hK2, hD⟩ := hF.d n7
          have s0 := hD.cell (f := 4) (u := X.ov) rfl
          clear hD hK2
          try simp only [hd, bsel_t]
          have HF := Lib.hid hF
          clear hF hC
          go_simp
          exact hK3 _ _ ⟨g6, v, by first | (simp [upd, bsel]; done) | (simp [upd, bsel, n7]; done) | simp [upd, bsel, hd, n7], HF.out.pure hL (by decide) (by decide) (by simp)⟩
        | 5, ho =>
          cases ho
          simp [Region.binds] at hd
          have n7 : L 7 = false := dc_no hC hL (by kernel_rfl)
          obtain ⟨K2, hK2, hD⟩ := hF.d n7
          have s0 := HNK.out W hD.k
          clear hD hK2
          try simp only [hd, bsel_t]
          have HF := Lib.hid hF
          clear hF hC
          go_simp
          exact hK3 _ _ ⟨g6, v, by first | (simp [upd, bsel]; done) | (simp [upd, bsel, n7]; done) | simp [upd, bsel, hd, n7], HF.out.pure hL (by decide) (by decide) (by simp)⟩
        | 6, ho =>
          cases ho
          simp [Region.binds] at hd
          have n7 : L 7 = false := dc_no hC hL (by kernel_rfl)
          try simp only [hd, bsel_t]
          have HF := Lib.hid hF
          clear hF hC
          go_simp
          exact hK3 _ _ ⟨W.heap.size, v, by first | (simp [upd, bsel]; done) | (simp [upd, bsel, n7]; done) | simp [upd, bsel, hd, n7], HF.out.lit hL n7 (by decide) (by decide) (by simp) (fun K2 h => by have := h.k.size; omega) (fun K2 h => h.alloc _)⟩
        | 7, ho =>
          cases ho
          simp [Region.binds] at hd
          obtain ⟨K2, hK2, hD⟩ := hF.d hL
          have l6 : L 6 = true := by simp [hd]
          obtain ⟨hg1, hg2⟩ := hF.li hL (6, g6, .cells #[.string t] 9) (by simp) l6
          simp only [hd, bsel_t]
          have HF := Lib.hid hF
          clear hF hC
          refine step_appR el_strG rfl (.tmp 35) (.tmp 40) rfl (w2.heap.size + 1 + 1) (X.ov) X.os.length (strs X.os) (by rfl) (hD.O) ⟨g6, 0, none⟩ 1 1 [.string t] (by rfl) rfl (fun j' u' hj' => by rw [show (⟨g6, 0, none⟩ : Addr).add j' = ⟨g6, j', none⟩ from by simp [Addr.add, eq_comm], cell_of_row W g6 _ _ _ _ hg2]; simpa using hj') (one1 rfl) (by unfold maxLen; omega) (by omega) (by have := hD.k.size; omega) ?_
          intro v' W' ho hg
          have HE := Lib.hid ((hD.appO hpB ho (kept_of_grown hg)).mono (K' := K1 + 2 + 20) (by have := cnt_le L 10; omega))
          clear ho hg hD
          go_simp
          exact hK3 _ _ ⟨g6, v', by first | (simp [upd, bsel]; done) | simp [upd, bsel, hd], HF.out.app hL (by decide) HE.out⟩
        | 9, ho =>
          cases ho
          simp [Region.binds] at hd
          have lA : L 7 = true := by simp [hd]
          have hE := hF.e lA hL
          obtain ⟨Av, cv, rfl, _⟩ := owns_form (show W.ownsRow (w2.heap.size + 1 + 1) 9 1 v (X.os.length + 1) (strs (X.os ++ [t])) from (by have h := hE.O; simp only [List.length_append, List.length_cons, List.length_nil] at h; exact h))
          have s0 := hE.cell (f := 4) (u := X.ov) rfl
          have f0 := frozen_of_row W w2.heap.size 4 _ _ hE.box
          have HFF := Lib.hid (show ∃ z, GS wN p (w2.heap.size + 1 + 1) w2.heap.size (w2.heap.size + 1 + 1) A bs c true (BX.cells { X with ov := z, os := X.os ++ [t] }) { X with ov := z, os := X.os ++ [t] } (K1 + 2 + 20) (W.setCell ⟨w2.heap.size, 4, none⟩ (.slice Av (X.os.length + 1) cv)) from ⟨_, hE.put hpB hpP 4 _⟩)
          clear hE
          try simp only [hd, bsel_t]
          have HF := Lib.hid hF
          clear hF hC
          go_simp
          exact hK3 _ _ ⟨g6, (.slice Av (X.os.length + 1) cv), by first | (simp [upd, bsel]; done) | simp [upd, bsel, hd], HF.out.store lA (by decide) HFF.out⟩
        | q + 10, ho => simp at ho
    intro L act W hJ hfin
    obtain ⟨g6, v, rfl, hF⟩ := hJ
    have ll := fin_all 10 (by kernel_rfl) hfin
    have l0 := ll 0 (by decide)
    have l1 := ll 1 (by decide)
    have l2 := ll 2 (by decide)
    have l3 := ll 3 (by decide)
    have l4 := ll 4 (by decide)
    have l5 := ll 5 (by decide)
    have l6 := ll 6 (by decide)
    have l7 := ll 7 (by decide)
    have l8 := ll 8 (by decide)
    have l9 := ll 9 (by decide)
    simp only [l0, l1, l2, l3, l4, l5, l6, l7, l8, l9, bsel_t]
    have HFIN := Lib.hid (hF.f l9)
    clear hF hfin l0 l1 l2 l3 l4 l5 l6 l7 l8 l9
    obtain ⟨v2, hg2⟩ := HFIN.out
    have HG4 := Lib.hid hg2
    clear hg2 HFIN
    go_wp2_with fail
    go_roundw
    case rel => exact ⟨k + 1, { X with ov := v2, os := X.os ++ [t] }, K1 + 2 + 20, by omega, by go_num, by omega, by rw [HX.out], by rw [List.length_append]; simp; omega, fun s hs => by
      rcases List.mem_append.1 hs with h | h
      · exact HON.out s h
      simp at h; subst h; exact HTZ.out, HG4.out⟩
    case measure => simp [intOf]; omega
  obtain rfl : k = 4 := by omega
  have hXr : X.r = r := congrArg BX.r hX
  have hXe : X.e = ed := congrArg BX.e hX
  obtain ⟨AO, cO, hov, _⟩ := owns_form hG.O
  have x0 := hG.cell (f := 0) (u := .int .i64 r) (by rw [← hXr]; rfl)
  have x3 := hG.cell (f := 3) (u := .int .i64 ed) (by rw [← hXe]; rfl)
  have x4 := hG.cell (f := 4) (u := X.ov) rfl
  rw [hov] at x4
  have HP := Lib.hid (pick_any p A bs c K1 ((m : Int) + 1) wr hG.cur (by omega) (by omega))
  have HG := Lib.hid hG
  have HX := Lib.hid hX
  have HON := Lib.hid hon
  have HXR := Lib.hid hXr
  have HXE := Lib.hid hXe
  clear hG hX hon hXr hXe hov
  go_wp2_with fail
  (with_reducible refine HP.out.mono ?_)
  rintro e w4 ⟨nn, rfl, hn0, hn1, hC4, hK4⟩
  obtain ⟨n, rfl⟩ := Int.eq_ofNat_of_zero_le hn0
  have hnm : n ≤ m := by have := hn1 (by omega); omega
  have HG4 := Lib.hid (HG.out.draw hpB (Nat.le_refl _) hpP hK4 hC4)
  have x0 := HG4.out.cell (f := 0) (u := .int .i64 r) (by rw [← HXR.out]; rfl)
  clear hC4 hK4 hn0 hn1 x3 x4
  go_upto_region 10 with fail
  go_cut [60] from 53 (fun s wx => (∃ b, s = .bool b ∧ (b = false → sig ≠ [] ∧ r ≠ 0)) ∧ GS wN p (w2.heap.size + 1 + 1) w2.heap.size (w2.heap.size + 1 + 1) A bs c true X.cells X (K1 + 2) wx)
  case first =>
    as_aux_lemma =>
      by_cases hs0 : sig.length = 0
      · have q0 : ((sig.length : Int) == 0) = true := by rw [hs0]; rfl
        go_wp2_with fail
        go_meet
        case rel => exact ⟨⟨_, rfl, fun h => by simp at h⟩, HG4.out⟩
      have q0 : ((sig.length : Int) == 0) = false := by rw [beq_eq_false_iff_ne]; omega
      have hsn : sig ≠ [] := fun e => hs0 (by rw [e]; rfl)
      have HSN := Lib.hid hsn
      clear hsn
      by_cases hr0 : r = 0
      · subst hr0
        go_wp2_with fail
        go_meet
        case rel => exact ⟨⟨_, rfl, fun h => by simp at h⟩, HG4.out⟩
      have q1 : (r == 0) = false := by rw [beq_eq_false_iff_ne]; exact hr0
      go_wp2_with fail
      go_meet
      case rel => exact ⟨⟨_, rfl, fun _ => ⟨HSN.out, hr0⟩⟩, HG4.out⟩
  clear x0 HG4
  obtain ⟨⟨bz, rfl, hb⟩, hG⟩ := hcut
  have HBB := Lib.hid hb
  have HG4 := Lib.hid hG
  clear hb hG
  go_upto_if 60 with fail
  go_cut [11] from 61 (fun y wx => (∃ n2 : Nat, y = .int .i64 (n2 : Int) ∧ n2 ≤ m ∧ (0 < n2 → sig ≠ [] ∧ r ≠ 0)) ∧ GS wN p (w2.heap.size + 1 + 1) w2.heap.size (w2.heap.size + 1 + 1) A bs c true X.cells X (K1 + 2) wx)
  case first =>
    as_aux_lemma =>
      cases bz
      · go_wp2_with fail
        go_meet
        case rel => exact ⟨⟨n, rfl, hnm, fun _ => HBB.out (by first | trivial | rfl)⟩, HG4.out⟩
      go_wp2_with fail
      go_meet
      case rel => exact ⟨⟨0, rfl, by omega, fun h => by omega⟩, HG4.out⟩
  clear HG4 HBB
  obtain ⟨⟨n2, rfl, hn2, hpos⟩, hG⟩ := hcut
  have HPOS := Lib.hid hpos
  have HG4 := Lib.hid hG
  clear hpos hG
  go_wp2_with fail
  go_loopw [12] (fun i wr => ∃ (q : Nat) (Y : BX) (KA : Nat), q ≤ n2 ∧ i = .int .i64 (q : Int) ∧ KA ≤ K + 200 + 300 * q ∧ Y = { X with nv := Y.nv, ns := Y.ns, ls := Y.ls } ∧ Y.ns.length = q ∧ (∀ x ∈ Y.ns, (∃ j : Nat, x.1 = (j : Int) ∧ j < sig.length) ∧ -10 ≤ x.2.1 ∧ x.2.1 ≤ 30 ∧ x.2.2.length ≤ 4) ∧ GS wN p (w2.heap.size + 1 + 1) w2.heap.size wr.heap.size A bs c true Y.cells Y KA wr)
    (fun i _ => n2 - (intOf i).toNat)
  case atStart => exact ⟨0, X, K1 + 2, by omega, rfl, by omega, rfl, by rw [HX.out]; rfl, fun x hx => by rw [HX.out] at hx; simp [X0] at hx, HG4.out.up (by have := HG4.out.k.size; omega) (by rw [HX.out]; rfl) (by rw [HX.out]; rfl)⟩
  clear HG4
  obtain ⟨q, Y, KA, hq, rfl, hKA, hY, hYl, hYn, hG⟩ := hrel
  by_cases hql : q < n2
  · have hYr : Y.r = r := (congrArg BX.r hY).trans HXR.out
    have hYs : Y.sv = .slice none 0 0 := by
      have h1 := congrArg BX.sv hY
      exact h1.trans (congrArg BX.sv HX.out)
    have HYS := Lib.hid hYs
    have HYR := Lib.hid hYr
    have HYY := Lib.hid hY
    have HYN := Lib.hid hYn
    have HG5 := Lib.hid hG
    have hszr := hG.k.size
    have HNV := Lib.hid (show ∀ g, Y.nv.ownBlock = some g → g < wr.heap.size from fun g hg => (hG.N.own.lt g hg).2)
    have HSG := Lib.hid (HPOS.out (by omega))
    obtain ⟨Cc, hCc⟩ : ∃ Cc, Cc = wr.heap.size := ⟨_, rfl⟩
    have hBC : w2.heap.size + 1 + 1 ≤ Cc := by omega
    have hPC : w2.heap.size < Cc := by omega
    have HG6 := Lib.hid (show GS wN p (w2.heap.size + 1 + 1) w2.heap.size Cc A bs c true Y.cells Y KA wr from by rw [hCc]; exact HG5.out)
    have hNV : ∀ g, Y.nv.ownBlock = some g → g < Cc := fun g hg => by rw [hCc]; exact HNV.out g hg
    have HNVC := Lib.hid hNV
    have HSGL := Lib.hid (show 1 ≤ (sig.length : Int) ∧ 1 ≤ r from ⟨by have := List.length_pos_iff.2 HSG.out.1; omega, by have := HSG.out.2; omega⟩)
    have HCC := Lib.hid hCc
    clear hNV hCc HG5
    clear hYs hYr hY hYn hG
    go_wp2_with fail
    refine wp_region_dc (by kernel_rfl) (fun L act W => ∃ (y3 : Int) (y7 : Int) (g10 : Nat) (v : Value), act = ⟨#[.pointer (some ⟨p, 0, none⟩), .slice AG sig.length cG, .int .i64 (m : Int), undef, undef, undef, .pointer (some ⟨w.heap.size, 0, none⟩), .pointer (some ⟨w2.heap.size, 0, none⟩), .slice (some ⟨w2.heap.size + 1, 0, none⟩) 4 4, .int .i64 4, .int .i64 (ed + (X.os.length : Int)), .int .i64 (n2 : Int), .int .i64 (q : Int), bsel (L 10) (.pointer (some ⟨g10, 0, none⟩)) (u13), u14, u15, undef, undef, undef, .pointer (some ⟨p, 0, none⟩), .slice (some ⟨w.heap.size + 1, 0, none⟩) 5 5, .int .i64 r, .pointer (some ⟨p, 0, none⟩), .int .i64 ed, .agg #[.int .i64 r, .slice none 0 0, .slice none 0 0, .int .i64 ed, .slice none 0 0, .slice none 0 0], .slice (some ⟨w2.heap.size + 1, 0, none⟩) 4 4, .int .i64 4, .slice (some ⟨w2.heap.size + 1, 0, none⟩) 4 4, .int .i64 4, .bool false, u30, u31, u32, u33, u34, u35, u36, u37, u38, u39, u40, u41, u42, .pointer (some ⟨w2.heap.size, 3, none⟩), .int .i64 ed, .pointer (some ⟨w2.heap.size, 4, none⟩), .slice AO X.os.length cO, .int .i64 (X.os.length : Int), .int .i64 (ed + (X.os.length : Int)), .pointer (some ⟨p, 0, none⟩), .int .i64 (m : Int), .int .i64 ((m : Int) + 1), .int .i64 (n : Int), u53, u54, u55, u56, u57, u58, u59, .bool bz, .int .i64 (q : Int), .int .i64 (n2 : Int), .bool true, u64, u65, bsel (L 0) (.pointer (some ⟨p, 0, none⟩)) (u66), bsel (L 1) (.slice AG sig.length cG) (u67), bsel (L 2) (.int .i64 (sig.length : Int)) (u68), bsel (L 3) (.int .i64 y3) (u69), bsel (L 4) (.pointer (some ⟨p, 0, none⟩)) (u70), bsel (L 5) (.pointer (some ⟨w2.heap.size, 0, none⟩)) (u71), bsel (L 6) (.int .i64 r) (u72), bsel (L 7) (.int .i64 y7) (u73), bsel (L 8) (.int .i64 (-1 - y7)) (u74), bsel (L 9) (.agg #[.int .i64 y3, .int .i64 (-1 - y7), .slice none 0 0]) (u75), u76, u77, u78, u79, u80, u81, u82, u83, u84, u85, u86, u87, u88, u89, u90, u91, u92, u93, u94, u95, u96, u97, u98, u99, u100, u101, u102, u103, u104, u105, u106, u107, u108, u109, u110, u111, u112, u113, u114, u115, u116, u117, u118, u119, u120, u121, u122, u123, u124, u125, u126, u127, u128, u129, u130, u131, u132, u133, u134, u135, u136, u137, u138, u139, u140, u141, u142, u143, u144, u145, u146, u147, u148, u149, u150, u151, u152, u153, u154, u155, u156, u157, u158, u159, u160, u161, u162, u163, u164, u165, u166, u167, u168, u169, u170, u171, u172, u173, u174, u175, u176, u177, u178, u179, u180, u181, u182, u183, u184, u185, u186, u187, u188, u189, u190, u191, u192, u193, u194, u195, u196, u197, u198, u199, u200, u201, u202, u203, u204, u205, u206, u207], []⟩ ∧ RF p Cc KA 12 11 11 (fun K2 W => GS wN p (w2.heap.size + 1 + 1) w2.heap.size Cc A bs c true Y.cells Y K2 W ∧ Cc ≤ W.heap.size) (fun _ _ => True) (fun W => GX wN p (w2.heap.size + 1 + 1) w2.heap.size Cc A bs c true Y.cells Y g10 y3 (-1 - y7) (.slice none 0 0) [] (KA + 30) W) [(10, g10, .cells #[.int .i64 0, .int .i64 0, .slice none 0 0] 88)] L v W ∧ (L 3 = true → 0 ≤ y3 ∧ (1 ≤ (sig.length : Int) → y3 < (sig.length : Int))) ∧ (L 7 = true → 0 ≤ y7 ∧ (1 ≤ r → y7 < r))) ?h20 ?s2t ?f2i
    case h20 => exact ⟨0, 0, 0, undef, rfl, RF.start (⟨HG6.out.drew, by rw [HCC.out]; exact Nat.le_refl _⟩), fun h => (nomatch h), fun h => (nomatch h)⟩
    case s2t =>
      as_aux_lemma =>
        intro L act W q oo hJ hC hL ho hd K3 hK3
        obtain ⟨y3, y7, g10, v, rfl, hF, hR3, hR7⟩ := hJ
        match q, ho with
        | 0, ho | 1, ho | 2, ho | 4, ho | 5, ho | 9, ho =>
          cases ho
          simp [Region.binds] at hd
          try simp only [hd, bsel_t]
          have HF := Lib.hid hF
          clear hF hC
          have HR3 := Lib.hid hR3
          clear hR3
          have HR7 := Lib.hid hR7
          clear hR7
          go_simp
          exact hK3 _ _ ⟨y3, y7, g10, v, by first | (simp [upd, bsel]; done) | simp [upd, bsel, hd], HF.out.pure hL (by decide) (by decide) (by simp), by simpa [upd] using HR3.out, by simpa [upd] using HR7.out⟩
        | 3, ho =>
          cases ho
          simp [Region.binds] at hd
          have n9 : L 9 = false := dc_no hC hL (by kernel_rfl)
          have n11 : L 11 = false := dc_no hC hL (by kernel_rfl)
          obtain ⟨K2, hK2, hD⟩ := hF.d n11
          try simp only [hd, bsel_t]
          have HF := Lib.hid hF
          clear hF hC
          have HR3 := Lib.hid hR3
          clear hR3
          have HR7 := Lib.hid hR7
          clear hR7
          have HD := Lib.hid hD
          clear hD
          go_simp
          go_at_call 97
          refine (pick_any p A bs c K2 ((sig.length : Int)) W HD.out.1.cur (by have := cnt_le L 12; omega) (by omega)).mono ?_
          rintro e W' ⟨y3', rfl, hy0, hy1, hC', hk'⟩
          go_simp
          exact hK3 _ _ ⟨y3', y7, g10, v, by first | (simp [upd, bsel]; done) | (simp [upd, bsel, n9, n11]; done) | simp [upd, bsel, hd, n9, n11], HF.out.draw (by decide) hL n11 (by decide) (by decide) (by simp) (K2 := K2 + 2) (by omega) (by omega) (⟨HD.out.1.draw hpB hBC hpP hk' hC', Nat.le_trans HD.out.2 hk'.size⟩) hk', fun _ => ⟨hy0, hy1⟩, by simpa [upd] using HR7.out⟩
        | 6, ho =>
          cases ho
          simp [Region.binds] at hd
          have n11 : L 11 = false := dc_no hC hL (by kernel_rfl)
          obtain ⟨K2, hK2, hD⟩ := hF.d n11
          have s0 := hD.1.cell (f := 0) (u := .int .i64 r) (by rw [← HYR.out]; rfl)
          clear hD hK2
          try simp only [hd, bsel_t]
          have HF := Lib.hid hF
          clear hF hC
          have HR3 := Lib.hid hR3
          clear hR3
          have HR7 := Lib.hid hR7
          clear hR7
          go_simp
          exact hK3 _ _ ⟨y3, y7, g10, v, by first | (simp [upd, bsel]; done) | (simp [upd, bsel, n11]; done) | simp [upd, bsel, hd, n11], HF.out.pure hL (by decide) (by decide) (by simp), by simpa [upd] using HR3.out, by simpa [upd] using HR7.out⟩
        | 7, ho =>
          cases ho
          simp [Region.binds] at hd
          have n8 : L 8 = false := dc_no hC hL (by kernel_rfl)
          have n9 : L 9 = false := dc_no hC hL (by kernel_rfl)
          have n11 : L 11 = false := dc_no hC hL (by kernel_rfl)
          obtain ⟨K2, hK2, hD⟩ := hF.d n11
          try simp only [hd, bsel_t]
          have HF := Lib.hid hF
          clear hF hC
          have HR3 := Lib.hid hR3
          clear hR3
          have HR7 := Lib.hid hR7
          clear hR7
          have HD := Lib.hid hD
          clear hD
          go_simp
          go_at_call 97
          refine (pick_any p A bs c K2 (r) W HD.out.1.cur (by have := cnt_le L 12; omega) (by omega)).mono ?_
          rintro e W' ⟨y7', rfl, hy0, hy1, hC', hk'⟩
          go_simp
          exact hK3 _ _ ⟨y3, y7', g10, v, by first | (simp [upd, bsel]; done) | (simp [upd, bsel, n8, n9, n11]; done) | simp [upd, bsel, hd, n8, n9, n11], HF.out.draw (by decide) hL n11 (by decide) (by decide) (by simp) (K2 := K2 + 2) (by omega) (by omega) (⟨HD.out.1.draw hpB hBC hpP hk' hC', Nat.le_trans HD.out.2 hk'.size⟩) hk', by simpa [upd] using HR3.out, fun _ => ⟨hy0, hy1⟩⟩
        | 8, ho =>
          cases ho
          simp [Region.binds] at hd
          have l7 : L 7 = true := by simp [hd]
          obtain ⟨hy0, hy1⟩ := hR7 l7
          have hy2 := hy1 HSGL.out.2
          have hw9 := IntWalk.i64_in (-1 - y7) (by omega)
          clear hy0 hy1 hy2 l7
          try simp only [hd, bsel_t]
          have HF := Lib.hid hF
          clear hF hC
          have HR3 := Lib.hid hR3
          clear hR3
          have HR7 := Lib.hid hR7
          clear hR7
          go_simp
          exact hK3 _ _ ⟨y3, y7, g10, v, by first | (simp [upd, bsel]; done) | simp [upd, bsel, hd], HF.out.pure hL (by decide) (by decide) (by simp), by simpa [upd] using HR3.out, by simpa [upd] using HR7.out⟩
        | 10, ho =>
          cases ho
          simp [Region.binds] at hd
          have n11 : L 11 = false := dc_no hC hL (by kernel_rfl)
          try simp only [hd, bsel_t]
          have HF := Lib.hid hF
          clear hF hC
          have HR3 := Lib.hid hR3
          clear hR3
          have HR7 := Lib.hid hR7
          clear hR7
          go_simp
          exact hK3 _ _ ⟨y3, y7, W.heap.size, v, by first | (simp [upd, bsel]; done) | (simp [upd, bsel, n11]; done) | simp [upd, bsel, hd, n11], HF.out.lit hL n11 (by decide) (by decide) (by simp) (fun K2 h => h.2) (fun K2 h => ⟨h.1.alloc _, Nat.le_trans h.2 (by simp)⟩), by simpa [upd] using HR3.out, by simpa [upd] using HR7.out⟩
        | 11, ho =>
          cases ho
          simp [Region.binds] at hd
          obtain ⟨K2, hK2, hD⟩ := hF.d hL
          have l10 : L 10 = true := by simp [hd]
          obtain ⟨hg1, hg2⟩ := hF.li hL (10, g10, .cells #[.int .i64 0, .int .i64 0, .slice none 0 0] 88) (by simp) l10
          have HFF := Lib.hid ((GX.first (ct := y3) (pa := -1 - y7) hD.1 hg2 rfl hpB hBC hPC hg1 HNVC.out HYS.out).mono (K' := KA + 30) (by have := cnt_le L 12; omega))
          have s0 := cell_of_row W g10 0 _ _ _ hg2
          have s1 := cell_of_row W g10 1 _ _ _ hg2
          have s2 := cell_of_row W g10 2 _ _ _ hg2
          have f0 := frozen_of_row W g10 0 _ _ hg2
          have f1 := frozen_of_row W g10 1 _ _ hg2
          have f2 := frozen_of_row W g10 2 _ _ hg2
          clear hD
          try simp only [hd, bsel_t]
          have HF := Lib.hid hF
          clear hF hC
          have HR3 := Lib.hid hR3
          clear hR3
          have HR7 := Lib.hid hR7
          clear hR7
          go_simp
          exact hK3 _ _ ⟨y3, y7, g10, v, by first | (simp [upd, bsel]; done) | simp [upd, bsel, hd], RF.store1 HFF.out, by simpa [upd] using HR3.out, by simpa [upd] using HR7.out⟩
        | q + 12, ho => simp at ho
    intro L act W hJ hfin
    obtain ⟨y3, y7, g10, v, rfl, hF, hR3, hR7⟩ := hJ
    have ll := fin_all 12 (by kernel_rfl) hfin
    have l0 := ll 0 (by decide)
    have l1 := ll 1 (by decide)
    have l2 := ll 2 (by decide)
    have l3 := ll 3 (by decide)
    have l4 := ll 4 (by decide)
    have l5 := ll 5 (by decide)
    have l6 := ll 6 (by decide)
    have l7 := ll 7 (by decide)
    have l8 := ll 8 (by decide)
    have l9 := ll 9 (by decide)
    have l10 := ll 10 (by decide)
    have l11 := ll 11 (by decide)
    simp only [l0, l1, l2, l3, l4, l5, l6, l7, l8, l9, l10, l11, bsel_t]
    have HR3 := Lib.hid (hR3 l3)
    have HR7 := Lib.hid (hR7 l7)
    have HFIN := Lib.hid (hF.f l11)
    clear hF hfin l0 l1 l2 l3 l4 l5 l6 l7 l8 l9 l10 l11 hR3 hR7
    obtain ⟨j3, hj3, hj3l⟩ : ∃ j3 : Nat, y3 = (j3 : Int) ∧ j3 < sig.length := by
      have h := HR3.out
      have h2 := h.2 HSGL.out.1
      exact ⟨y3.toNat, by omega, by omega⟩
    obtain ⟨pa0, hpa0, hpa1, hpa2⟩ : ∃ pa0 : Int, pa0 = -1 - y7 ∧ -10 ≤ pa0 ∧ pa0 ≤ 30 := by
      have h := HR7.out
      have h2 := h.2 HSGL.out.2
      exact ⟨_, rfl, by omega, by omega⟩
    subst hj3
    have HX5 := Lib.hid (show GX wN p (w2.heap.size + 1 + 1) w2.heap.size Cc A bs c true Y.cells Y g10 (j3 : Int) pa0 (.slice none 0 0) [] (KA + 30) W from by rw [hpa0]; exact HFIN.out)
    have HJ3 := Lib.hid hj3l
    clear HFIN HR3 HR7 hpa0 hj3l
    have HP16 := Lib.hid (pick_any p A bs c (KA + 30) ((q : Int) + 1) W HX5.out.gs.cur (by omega) (by omega))
    go_wp2_with fail
    (with_reducible refine HP16.out.mono ?_)
    rintro e w6 ⟨pvi, rfl, hpv0, hpv1, hC6, hK6⟩
    obtain ⟨pv, rfl⟩ := Int.eq_ofNat_of_zero_le hpv0
    have hpl : pv ≤ q := by have := hpv1 (by omega); omega
    have HX6 := Lib.hid ((HX5.out.draw hpB hBC hpP hK6 hC6).mono (K' := KA + 34) (by omega))
    clear hC6 hK6 hpv0 hpv1 HX5 HP16
    go_upto_region 17 with fail
    go_cut [99] from 80 to 138 (fun s wx => (∃ b, s = .bool b ∧ (b = true → pv < q)) ∧ GX wN p (w2.heap.size + 1 + 1) w2.heap.size Cc A bs c true Y.cells Y g10 (j3 : Int) pa0 (.slice none 0 0) [] (KA + 40) wx)
    case first =>
      as_aux_lemma =>
        by_cases hpq : pv < q
        · have hYl2 : pv < Y.ns.length := by omega
          obtain ⟨gN, cN2, lN, eN, _, m0, _, _⟩ := HX6.out.gs.N.cells hYl2
          have z1 := HX6.out.gs.cell (f := 1) (u := Y.nv) rfl
          rw [eN] at z1
          obtain ⟨⟨jc, hjc, hjl⟩, _, _⟩ := HYN.out _ (List.getElem_mem hYl2)
          rw [hjc] at m0
          obtain ⟨bS, oS, cS2, eS, _, _, kS⟩ := ct_at (HSIG.out w6 HX6.out.gs.k) hjl
          cases eS
          have HO17 := Lib.hid (one_any p A bs c (KA + 34) 2 w6 HX6.out.gs.cur (by omega) (by omega))
          have u0 : (0 : Int) ≤ (pv : Int) := by omega
          have u1 : (pv : Int) < (Y.ns.length : Int) := by omega
          have u2 : (0 : Int) ≤ (jc : Int) := by omega
          have u3 : (jc : Int) < (sig.length : Int) := by omega
          have u4 : (pv : Int) < (q : Int) := by omega
          have HPQ := Lib.hid hpq
          clear eN hjc hpq
          generalize (sig[jc]).2.2 = kd at *
          cases hkd : (kd == 2)
          · have hkd' : (kd != 2) = true := by rw [bne, hkd]; rfl
            go_wp2_with fail
            (with_reducible refine HO17.out.mono ?_)
            rintro e w7 ⟨b, rfl, hC7, hK7⟩
            have HX7 := Lib.hid ((HX6.out.draw hpB hBC hpP hK7 hC7).mono (K' := KA + 40) (by omega))
            clear hC7 hK7
            go_wp2_with fail
            go_meet
            case rel => exact ⟨⟨_, rfl, fun _ => HPQ.out⟩, HX7.out⟩
          have hkd' : (kd != 2) = false := by rw [bne, hkd]; rfl
          go_wp2_with fail
          go_meet
          case rel => exact ⟨⟨_, rfl, fun _ => HPQ.out⟩, HX6.out.mono (by omega)⟩
        have u4 : ¬ (pv : Int) < (q : Int) := by omega
        have ud : decide ((pv : Int) < (q : Int)) = false := decide_eq_false u4
        go_wp2_with fail
        go_meet
        case rel => exact ⟨⟨_, rfl, fun h => by simp at h⟩, HX6.out.mono (by omega)⟩
    clear HX6
    obtain ⟨⟨b, rfl, hb⟩, hx⟩ := hcut
    have HBB := Lib.hid hb
    have HX7 := Lib.hid hx
    clear hb hx
    go_upto_if 99 with fail
    go_cut [] from 100 to 138 (fun wx => ∃ pa : Int, -10 ≤ pa ∧ pa ≤ 30 ∧ GX wN p (w2.heap.size + 1 + 1) w2.heap.size Cc A bs c true Y.cells Y g10 (j3 : Int) pa (.slice none 0 0) [] (KA + 40) wx)
    case first =>
      as_aux_lemma =>
        cases b
        · go_wp2_with fail
          go_meet
          case rel => exact ⟨pa0, hpa1, hpa2, HX7.out⟩
        have s1 := cell_of_row wc g10 1 _ _ _ HX7.out.nx
        have f1 := frozen_of_row wc g10 1 _ _ HX7.out.nx
        have hpq := HBB.out (by first | trivial | rfl)
        have HXP := Lib.hid (HX7.out.putN (cs := #[]) hpB hBC hPC 1 (.int .i64 (pv : Int)) (ct2 := (j3 : Int)) (pa2 := (pv : Int)) rfl)
        clear HBB
        go_wp2_with fail
        go_meet
        case rel => exact ⟨(pv : Int), by omega, by omega, HXP.out⟩
    clear HX7 HBB
    obtain ⟨pa, hq1, hq2, hx⟩ := hcut
    have HX8 := Lib.hid hx
    clear hx
    have y0 := cell_of_row wc g10 0 _ _ _ HX8.out.nx
    obtain ⟨bS, oS, cS2, eS, _, pS, _⟩ := ct_at (HSIG.out wc HX8.out.gs.k) HJ3.out
    cases eS
    have u2 : (0 : Int) ≤ (j3 : Int) := by omega
    have u3 : (j3 : Int) < (sig.length : Int) := by have := HJ3.out; omega
    generalize (sig[j3]).2.1 = po at *
    go_upto_region 19 with fail
    go_cut [112] from 100 to 138 (fun s wx => (∃ b, s = .bool b) ∧ GX wN p (w2.heap.size + 1 + 1) w2.heap.size Cc A bs c true Y.cells Y g10 (j3 : Int) pa (.slice none 0 0) [] (KA + 40) wx)
    case first =>
      as_aux_lemma =>
        by_cases hp0 : 0 < po
        · cases hlk : ((ed + (X.os.length : Int)) == 0)
          · go_wp2_with fail
            go_meet
            case rel => exact ⟨⟨_, rfl⟩, HX8.out⟩
          have hlk2 : ed + (X.os.length : Int) = 0 := by simpa using hlk
          go_wp2_with fail
          go_meet
          case rel => exact ⟨⟨_, rfl⟩, HX8.out⟩
        have hp1 : decide (0 < po) = false := decide_eq_false hp0
        go_wp2_with fail
        go_meet
        case rel => exact ⟨⟨_, rfl⟩, HX8.out⟩
    clear y0 pS HX8
    obtain ⟨⟨b2, rfl⟩, hx⟩ := hcut
    have HX9 := Lib.hid hx
    clear hx
    go_upto_if 112 with fail
    go_cut [] from 113 to 138 (fun wx => ∃ ct : Nat, ct < sig.length ∧ GX wN p (w2.heap.size + 1 + 1) w2.heap.size Cc A bs c true Y.cells Y g10 (ct : Int) pa (.slice none 0 0) [] (KA + 40) wx)
    case first =>
      as_aux_lemma =>
        cases b2
        · go_wp2_with fail
          go_meet
          case rel => exact ⟨j3, HJ3.out, HX9.out⟩
        have s1 := cell_of_row wc g10 0 _ _ _ HX9.out.nx
        have f1 := frozen_of_row wc g10 0 _ _ HX9.out.nx
        have HXP := Lib.hid (HX9.out.putN (cs := #[]) hpB hBC hPC 0 (.int .i64 0) (ct2 := ((0 : Nat) : Int)) (pa2 := pa) rfl)
        go_wp2_with fail
        go_meet
        case rel => exact ⟨0, by have := HJ3.out; omega, HXP.out⟩
    clear HX9
    obtain ⟨ct, hct, hx⟩ := hcut
    have HXA := Lib.hid hx
    have hpo := hpt _ (List.getElem_mem hct)
    clear hx
    go_wp2_with fail
    go_loopw [15] (fun z wr => ∃ (k : Nat) (lv : Value) (lks : List Int) (KB : Nat), k ≤ 4 ∧ z = .int .i64 (k : Int) ∧ lks.length = k ∧ KB ≤ KA + 50 + 40 * k ∧ GX wN p (w2.heap.size + 1 + 1) w2.heap.size Cc A bs c true Y.cells Y g10 (ct : Int) pa lv lks KB wr)
      (fun z _ => 4 - (intOf z).toNat)
    case atStart => exact ⟨0, .slice none 0 0, [], KA + 40, by omega, rfl, rfl, by omega, HXA.out⟩
    clear HXA
    obtain ⟨k, lv, lks, KB, hk4, rfl, hkl, hKB, hx⟩ := hrel
    have y0 := cell_of_row wr g10 0 _ _ _ hx.nx
    have y1 := cell_of_row wr g10 1 _ _ _ hx.nx
    have y2 := cell_of_row wr g10 2 _ _ _ hx.nx
    obtain ⟨bS, oS, cS2, eS, _, pS, _⟩ := ct_at (HSIG.out wr hx.gs.k) hct
    cases eS
    have u2 : (0 : Int) ≤ (ct : Int) := by omega
    have u3 : (ct : Int) < (sig.length : Int) := by omega
    have HXB := Lib.hid hx
    clear hx
    generalize (sig[ct]).2.1 = po at *
    by_cases hkp : (k : Int) < po
    · obtain ⟨mo, hmo, hmo1, hmo2⟩ : ∃ mo : Int, (if (1 : Int) < ed + (X.os.length : Int) then ed + (X.os.length : Int) else 1) = mo ∧ 1 ≤ mo ∧ mo ≤ 100 := by
        split
        · exact ⟨_, rfl, by omega, by omega⟩
        exact ⟨_, rfl, by omega, by omega⟩
      have HMO := Lib.hid (show ∀ W, Calls Tryz.prog 209 #[.int .i64 (ed + (X.os.length : Int)), .int .i64 1] W fun e w' => e = .returned (.int .i64 mo) ∧ W = w' from fun W => by have h := l1MostG_any (ed + (X.os.length : Int)) 1 W; rw [hmo] at h; exact h)
      clear hmo
      have hk3 : k < 4 := by omega
      have hlk4 : lks.length ≤ 4 := by rw [hkl]; exact hk4
      have HKL := Lib.hid hkl
      clear hkl
      go_wp2_with fail
      clear y0 y1 y2 pS
      refine wp_region_dc (by kernel_rfl) (fun L act W => ∃ (y5 : Int) (g6 : Nat) (v : Value), act = ⟨#[.pointer (some ⟨p, 0, none⟩), .slice (some ⟨bS, oS, none⟩) sig.length cG, .int .i64 (m : Int), undef, undef, undef, .pointer (some ⟨w.heap.size, 0, none⟩), .pointer (some ⟨w2.heap.size, 0, none⟩), .slice (some ⟨w2.heap.size + 1, 0, none⟩) 4 4, .int .i64 4, .int .i64 (ed + (X.os.length : Int)), .int .i64 (n2 : Int), .int .i64 (q : Int), .pointer (some ⟨g10, 0, none⟩), .int .i64 (pv : Int), .int .i64 (k : Int), undef, undef, undef, .pointer (some ⟨p, 0, none⟩), .slice (some ⟨w.heap.size + 1, 0, none⟩) 5 5, .int .i64 r, .pointer (some ⟨p, 0, none⟩), .int .i64 ed, .agg #[.int .i64 r, .slice none 0 0, .slice none 0 0, .int .i64 ed, .slice none 0 0, .slice none 0 0], .slice (some ⟨w2.heap.size + 1, 0, none⟩) 4 4, .int .i64 4, .slice (some ⟨w2.heap.size + 1, 0, none⟩) 4 4, .int .i64 4, .bool false, u30, u31, u32, u33, u34, u35, u36, u37, u38, u39, u40, u41, u42, .pointer (some ⟨w2.heap.size, 3, none⟩), .int .i64 ed, .pointer (some ⟨w2.heap.size, 4, none⟩), .slice AO X.os.length cO, .int .i64 (X.os.length : Int), .int .i64 (ed + (X.os.length : Int)), .pointer (some ⟨p, 0, none⟩), .int .i64 (m : Int), .int .i64 ((m : Int) + 1), .int .i64 (n : Int), u53, u54, u55, u56, u57, u58, u59, .bool bz, .int .i64 (q : Int), .int .i64 (n2 : Int), .bool true, u64, u65, .pointer (some ⟨p, 0, none⟩), .slice (some ⟨bS, oS, none⟩) sig.length cG, .int .i64 (sig.length : Int), .int .i64 (j3 : Int), .pointer (some ⟨p, 0, none⟩), .pointer (some ⟨w2.heap.size, 0, none⟩), .int .i64 r, .int .i64 y7, .int .i64 (-1 - y7), .agg #[.int .i64 (j3 : Int), .int .i64 (-1 - y7), .slice none 0 0], .pointer (some ⟨p, 0, none⟩), .int .i64 (q : Int), .int .i64 ((q : Int) + 1), .int .i64 (pv : Int), u80, u81, u82, u83, u84, u85, u86, u87, u88, u89, u90, u91, u92, u93, u94, u95, u96, u97, u98, .bool b, u100, u101, u102, u103, u104, u105, u106, u107, u108, u109, u110, u111, .bool b2, u113, .int .i64 (k : Int), .slice (some ⟨bS, oS, none⟩) sig.length cG, .pointer (some ⟨g10, 0, none⟩), .int .i64 (ct : Int), .pointer (some ⟨bS, oS + ct * 3, none⟩), .pointer (some ⟨bS, oS + ct * 3 + 1, none⟩), .int .i64 po, .bool true, u122, u123, bsel (L 0) (.pointer (some ⟨g10, 2, none⟩)) (u124), bsel (L 1) (lv) (u125), bsel (L 2) (.pointer (some ⟨p, 0, none⟩)) (u126), bsel (L 3) (.int .i64 (ed + (X.os.length : Int))) (u127), bsel (L 4) (.int .i64 mo) (u128), bsel (L 5) (.int .i64 y5) (u129), bsel (L 6) (.slice (some ⟨g6, 0, none⟩) 1 1) (u130), bsel (L 7) (v) (u131), bsel (L 8) (.pointer (some ⟨g10, 2, none⟩)) (u132), u133, u134, u135, u136, u137, u138, u139, u140, u141, u142, u143, u144, u145, u146, u147, u148, u149, u150, u151, u152, u153, u154, u155, u156, u157, u158, u159, u160, u161, u162, u163, u164, u165, u166, u167, u168, u169, u170, u171, u172, u173, u174, u175, u176, u177, u178, u179, u180, u181, u182, u183, u184, u185, u186, u187, u188, u189, u190, u191, u192, u193, u194, u195, u196, u197, u198, u199, u200, u201, u202, u203, u204, u205, u206, u207], []⟩ ∧ RF p Cc KB 10 7 9 (fun K2 W => GX wN p (w2.heap.size + 1 + 1) w2.heap.size Cc A bs c true Y.cells Y g10 (ct : Int) pa lv lks K2 W) (fun v W => GS wN p (w2.heap.size + 1 + 1) w2.heap.size Cc A bs c true Y.cells Y (KB + 30) W ∧ W.heap[g10]? = some (.cells #[.int .i64 (ct : Int), .int .i64 pa, lv] 88) ∧ W.ownsRow Cc 3 1 v (lks ++ [y5]).length (ints (lks ++ [y5])) ∧ Cc ≤ g10 ∧ (∀ g, Y.nv.ownBlock = some g → g < Cc) ∧ Y.sv = .slice none 0 0) (fun W => ∃ z, GX wN p (w2.heap.size + 1 + 1) w2.heap.size Cc A bs c true Y.cells Y g10 (ct : Int) pa z (lks ++ [y5]) (KB + 30) W) [(6, g6, .cells #[.int .i64 y5] 3)] L v W ∧ (L 5 = true → 0 ≤ y5 ∧ (1 ≤ mo → y5 < mo))) ?h30 ?s3t ?f3i
      case h30 => exact ⟨0, 0, undef, rfl, RF.start (HXB.out.drew), fun h => (nomatch h)⟩
      case s3t =>
        as_aux_lemma =>
          intro L act W q oo hJ hC hL ho hd K3 hK3
          obtain ⟨y5, g6, v, rfl, hF, hR5⟩ := hJ
          match q, ho with
          | 0, ho | 2, ho | 3, ho | 8, ho =>
            cases ho
            simp [Region.binds] at hd
            try simp only [hd, bsel_t]
            have HF := Lib.hid hF
            clear hF hC
            have HR5 := Lib.hid hR5
            clear hR5
            go_simp
            exact hK3 _ _ ⟨y5, g6, v, by first | (simp [upd, bsel]; done) | simp [upd, bsel, hd], HF.out.pure hL (by decide) (by decide) (by simp), by simpa [upd] using HR5.out⟩
          | 1, ho =>
            cases ho
            simp [Region.binds] at hd
            have n7 : L 7 = false := dc_no hC hL (by kernel_rfl)
            obtain ⟨K2, hK2, hD⟩ := hF.d n7
            have s0 := cell_of_row W g10 2 _ _ _ hD.nx
            clear hD hK2
            try simp only [hd, bsel_t]
            have HF := Lib.hid hF
            clear hF hC
            have HR5 := Lib.hid hR5
            clear hR5
            go_simp
            exact hK3 _ _ ⟨y5, g6, v, by first | (simp [upd, bsel]; done) | (simp [upd, bsel, n7]; done) | simp [upd, bsel, hd, n7], HF.out.pure hL (by decide) (by decide) (by simp), by simpa [upd] using HR5.out⟩
          | 4, ho =>
            cases ho
            simp [Region.binds] at hd
            try simp only [hd, bsel_t]
            have HF := Lib.hid hF
            clear hF hC
            have HR5 := Lib.hid hR5
            clear hR5
            go_simp
            go_at_call 209
            refine (HMO.out W).mono ?_
            rintro e W' ⟨rfl, rfl⟩
            go_simp
            exact hK3 _ _ ⟨y5, g6, v, by first | (simp [upd, bsel]; done) | simp [upd, bsel, hd], HF.out.pure hL (by decide) (by decide) (by simp), by simpa [upd] using HR5.out⟩
          | 5, ho =>
            cases ho
            simp [Region.binds] at hd
            have n6 : L 6 = false := dc_no hC hL (by kernel_rfl)
            have n7 : L 7 = false := dc_no hC hL (by kernel_rfl)
            obtain ⟨K2, hK2, hD⟩ := hF.d n7
            try simp only [hd, bsel_t]
            have HF := Lib.hid hF
            clear hF hC
            have HR5 := Lib.hid hR5
            clear hR5
            have HD := Lib.hid hD
            clear hD
            go_simp
            go_at_call 97
            refine (pick_any p A bs c K2 (mo) W HD.out.gs.cur (by have := cnt_le L 10; omega) (by omega)).mono ?_
            rintro e W' ⟨y5', rfl, hy0, hy1, hC', hk'⟩
            go_simp
            exact hK3 _ _ ⟨y5', g6, v, by first | (simp [upd, bsel]; done) | (simp [upd, bsel, n6, n7]; done) | simp [upd, bsel, hd, n6, n7], HF.out.draw2 (by decide) hL n7 (by decide) (by decide) (by simp [n6]) (K2 := K2 + 2) (by omega) (by omega) (HD.out.draw hpB hBC hpP hk' hC') hk', fun _ => ⟨hy0, hy1⟩⟩
          | 6, ho =>
            cases ho
            simp [Region.binds] at hd
            have n7 : L 7 = false := dc_no hC hL (by kernel_rfl)
            try simp only [hd, bsel_t]
            have HF := Lib.hid hF
            clear hF hC
            have HR5 := Lib.hid hR5
            clear hR5
            go_simp
            exact hK3 _ _ ⟨y5, W.heap.size, v, by first | (simp [upd, bsel]; done) | (simp [upd, bsel, n7]; done) | simp [upd, bsel, hd, n7], HF.out.lit hL n7 (by decide) (by decide) (by simp) (fun K2 h => by have := (Array.getElem?_eq_some_iff.1 h.nx).1; have := h.lt; omega) (fun K2 h => h.alloc _), by simpa [upd] using HR5.out⟩
          | 7, ho =>
            cases ho
            simp [Region.binds] at hd
            obtain ⟨K2, hK2, hD⟩ := hF.d hL
            have l6 : L 6 = true := by simp [hd]
            obtain ⟨hg1, hg2⟩ := hF.li hL (6, g6, .cells #[.int .i64 y5] 3) (by simp) l6
            simp only [hd, bsel_t]
            have HF := Lib.hid hF
            clear hF hC
            have HR5 := Lib.hid hR5
            clear hR5
            refine step_appR el_intG rfl (.tmp 125) (.tmp 130) rfl Cc (lv) lks.length (ints lks) (by rfl) (hD.lk) ⟨g6, 0, none⟩ 1 1 [.int .i64 y5] (by rfl) rfl (fun j' u' hj' => by rw [show (⟨g6, 0, none⟩ : Addr).add j' = ⟨g6, j', none⟩ from by simp [Addr.add, eq_comm], cell_of_row W g6 _ _ _ _ hg2]; simpa using hj') (one1 rfl) (by unfold maxLen; omega) (by omega) (by have := (Array.getElem?_eq_some_iff.1 hD.nx).1; have := hD.lt; omega) ?_
            intro v' W' ho hg
            have HE := Lib.hid ((hD.mono (K' := KB + 30) (by have := cnt_le L 10; omega)).appL hpB hBC hPC ho (kept_of_grown hg))
            clear ho hg hD
            go_simp
            exact hK3 _ _ ⟨y5, g6, v', by first | (simp [upd, bsel]; done) | simp [upd, bsel, hd], HF.out.app hL (by decide) HE.out, by simpa [upd] using HR5.out⟩
          | 9, ho =>
            cases ho
            simp [Region.binds] at hd
            have lA : L 7 = true := by simp [hd]
            have hE := hF.e lA hL
            obtain ⟨Av, cv, rfl, _⟩ := owns_form (show W.ownsRow Cc 3 1 v (lks.length + 1) (ints (lks ++ [y5])) from (by have h := hE.2.2.1; simp only [List.length_append, List.length_cons, List.length_nil] at h; exact h))
            have s0 := cell_of_row W g10 2 _ _ _ hE.2.1
            have f0 := frozen_of_row W g10 2 _ _ hE.2.1
            have HFF := Lib.hid (show ∃ z, GX wN p (w2.heap.size + 1 + 1) w2.heap.size Cc A bs c true Y.cells Y g10 (ct : Int) pa z (lks ++ [y5]) (KB + 30) (W.setCell ⟨g10, 2, none⟩ (.slice Av (lks.length + 1) cv)) from ⟨_, GX.putL hE hpB hBC hPC⟩)
            clear hE
            try simp only [hd, bsel_t]
            have HF := Lib.hid hF
            clear hF hC
            have HR5 := Lib.hid hR5
            clear hR5
            go_simp
            exact hK3 _ _ ⟨y5, g6, (.slice Av (lks.length + 1) cv), by first | (simp [upd, bsel]; done) | simp [upd, bsel, hd], HF.out.store lA (by decide) HFF.out, by simpa [upd] using HR5.out⟩
          | q + 10, ho => simp at ho
      intro L act W hJ hfin
      obtain ⟨y5, g6, v, rfl, hF, hR5⟩ := hJ
      have ll := fin_all 10 (by kernel_rfl) hfin
      have l0 := ll 0 (by decide)
      have l1 := ll 1 (by decide)
      have l2 := ll 2 (by decide)
      have l3 := ll 3 (by decide)
      have l4 := ll 4 (by decide)
      have l5 := ll 5 (by decide)
      have l6 := ll 6 (by decide)
      have l7 := ll 7 (by decide)
      have l8 := ll 8 (by decide)
      have l9 := ll 9 (by decide)
      simp only [l0, l1, l2, l3, l4, l5, l6, l7, l8, l9, bsel_t]
      have HR5 := Lib.hid (hR5 l5)
      have HFIN := Lib.hid (hF.f l9)
      clear hF hfin l0 l1 l2 l3 l4 l5 l6 l7 l8 l9 hR5
      obtain ⟨z, hz⟩ := HFIN.out
      have HXC := Lib.hid hz
      clear hz HFIN
      go_wp2_with fail
      go_roundw
      case rel => exact ⟨k + 1, z, lks ++ [y5], KB + 30, hk3, by go_num, by rw [List.length_append, HKL.out]; rfl, kb_step hKB, HXC.out⟩
      case measure => simp [intOf]; omega
    obtain ⟨AL, cL, rfl, _⟩ := owns_form HXB.out.lk
    have z1 := HXB.out.gs.cell (f := 1) (u := Y.nv) rfl
    have hY1 := congrArg BX.ss HYY.out
    have hYss : Y.ss = [] := hY1.trans (congrArg BX.ss HX.out)
    have HYSS := Lib.hid hYss
    have hYl3 : Y.ns.length ≤ 20 := by rw [hYl]; exact Nat.le_trans hq (Nat.le_trans hn2 hm)
    have hszB : w2.heap.size + 1 + 1 ≤ wr.heap.size := hsN ▸ HXB.out.gs.k.size
    have HKL := Lib.hid hkl
    clear hY1 hYss hkl
    go_wp2_with (at_builtin; refine wpList_app el_nodG rfl _ _ rfl (w2.heap.size + 1 + 1) _ _ _ rfl HXB.out.gs.N.own [.int .i64 (ct : Int), .int .i64 pa, .slice AL lks.length cL] rfl rfl rfl (by intro u hu; simp at hu; rcases hu with rfl | rfl | rfl <;> rfl) (app_room hYl3 (by decide)) hszB ?_; intro v2 wz ho hk2 hm2; obtain ⟨Av, cv, rfl, ho⟩ := owns_form ho; have HGN := Lib.hid (HXB.out.gs.appN (C' := wz.heap.size) (x := ((ct : Int), pa, lks)) hpB hBC HXB.out.lk hk2.size HYS.out HYSS.out ho hk2); have z2 := HGN.out.cell (f := 1) (u := Y.nv) rfl; have f2 := frozen_of_row wz w2.heap.size 1 _ _ HGN.out.box)
    have HGP := Lib.hid (HGN.out.put hpB hpP 1 (.slice Av (Y.ns.length + 1) cv))
    have hze : (wz.setCell ⟨w2.heap.size, 1, none⟩ (.slice Av (Y.ns.length + 1) cv)).heap.size = wz.heap.size := by simp [World.setCell]
    clear ho hk2 hm2 z2 f2
    go_wp2_with fail
    go_roundw
    case rel => exact ⟨q + 1, { Y with nv := .slice Av (q + 1) cv, ns := Y.ns ++ [((ct : Int), pa, lks)], ls := Y.ls ++ [.slice AL lks.length cL] }, KB, hql, by go_num, kb_fin hKB hk4 hKA, by rw [HYY.out], by rw [List.length_append, hYl]; rfl, fun x hx => by
      rcases List.mem_append.1 hx with h | h
      · exact HYN.out x h
      simp at h; subst h; exact ⟨⟨ct, rfl, hct⟩, hq1, hq2, HKL.out ▸ hk4⟩, by have h1 := HGP.out; have h2 := hze; rw [hYl] at h1 h2; rw [h2]; exact h1⟩
    case measure => simp [intOf]; exact ms_step hql
  obtain rfl : q = n2 := Nat.le_antisymm hq (Nat.le_of_not_lt hql)
  obtain ⟨wq, hwq⟩ : ∃ wq, wq = wr := ⟨_, rfl⟩
  obtain ⟨Cc, hCc⟩ : ∃ Cc, Cc = wq.heap.size := ⟨_, rfl⟩
  have hszr := hG.k.size
  have hBC : w2.heap.size + 1 + 1 ≤ Cc := by rw [hCc, hwq, ← hsN]; exact hszr
  have hPC : w2.heap.size < Cc := Nat.lt_of_lt_of_le (by omega) hBC
  have HKQ := Lib.hid (show Kept (fun q => q = p ∨ q = w2.heap.size ∨ w2.heap.size + 1 + 1 ≤ q) wN wq from by rw [hwq]; exact hG.k)
  have HG6 := Lib.hid (show GS wq p (w2.heap.size + 1 + 1) w2.heap.size Cc A bs c true Y.cells Y KA wr from by rw [hCc, hwq]; exact { hG with k := Kept.refl _ _ })
  have HCC := Lib.hid hCc
  have hYo : Y.os = X.os := by have := congrArg BX.os hY; exact this
  have hYss : Y.ss = [] := by have h1 := congrArg BX.ss hY; have h2 := congrArg BX.ss HX.out; exact h1.trans h2
  have hYis : Y.is = [] := by have h1 := congrArg BX.is hY; have h2 := congrArg BX.is HX.out; exact h1.trans h2
  have HL0 := Lib.hid (show LZ K sig.length r ed Y 0 0 KA from
    { kb := by omega, r := (congrArg BX.r hY).trans HXR.out, e := (congrArg BX.e hY).trans HXE.out, nl := by rw [hYl]; exact Nat.le_trans hn2 hm, nd := hYn, ol := by rw [hYo]; exact hol, on := by rw [hYo]; exact HON.out,
      sl := by rw [hYss]; exact Nat.le_refl _, il := by rw [hYis]; exact Nat.le_refl _, sb := by rw [hYss]; exact fun x h => (nomatch h), ib := by rw [hYis]; exact fun x h => (nomatch h) })
  clear hYo hYss hYis hYl hYn hG hwq hCc hszr HPOS hY
  go_wp2_with fail
  go_loopw [16] (fun z wr => ∃ (k : Nat) (Z : BX) (KB : Nat), k ≤ 4 ∧ z = .int .i64 (k : Int) ∧ LZ K sig.length r ed Z k k KB ∧ GS wq p (w2.heap.size + 1 + 1) w2.heap.size Cc A bs c true Z.cells Z KB wr)
    (fun z _ => 4 - (intOf z).toNat)
  case atStart => exact ⟨0, Y, KA, by omega, rfl, HL0.out, HG6.out⟩
  clear HG6 HL0
  obtain ⟨k, Z, KB, hk4, rfl, hL, hG⟩ := hrel
  by_cases hkl : k < 4
  · have HZ := Lib.hid hL
    have HGZ := Lib.hid hG
    have hkb := hL.kb
    have x0 := hG.cell (f := 0) (u := .int .i64 r) (by rw [← hL.r]; rfl)
    have HO1 := Lib.hid (one_any p A bs c KB 3 wr hG.cur (by omega) (by omega))
    clear hL hG
    go_upto_region 29 with fail
    go_cut [149] from 139 to 204 (fun s wx => (∃ b, s = .bool b ∧ (b = true → 0 < r)) ∧ GS wq p (w2.heap.size + 1 + 1) w2.heap.size Cc A bs c true Z.cells Z (KB + 2) wx)
    case first =>
      as_aux_lemma =>
        by_cases hr0 : 0 < r
        · have q1 : decide (0 < r) = true := decide_eq_true hr0
          have HR0 := Lib.hid hr0
          clear hr0
          go_wp2_with fail
          (with_reducible refine HO1.out.mono ?_)
          rintro e w5 ⟨b, rfl, hC5, hK5⟩
          have HG5 := Lib.hid (HGZ.out.draw hpB hBC hpP hK5 hC5)
          clear hC5 hK5
          go_wp2_with fail
          go_meet
          case rel => exact ⟨⟨_, rfl, fun _ => HR0.out⟩, HG5.out⟩
        have q1 : decide (0 < r) = false := decide_eq_false hr0
        go_wp2_with fail
        go_meet
        case rel => exact ⟨⟨_, rfl, fun h => by simp at h⟩, HGZ.out.mono (by omega)⟩
    clear x0 HGZ HO1
    obtain ⟨⟨b, rfl, hb⟩, hG⟩ := hcut
    have HBB := Lib.hid hb
    have HG5 := Lib.hid hG
    clear hb hG
    go_upto_if 149 with fail
    go_cut [] from 139 to 204 (fun wx => ∃ (Z : BX) (KB : Nat), LZ K sig.length r ed Z (k + 1) k KB ∧ GS wq p (w2.heap.size + 1 + 1) w2.heap.size Cc A bs c true Z.cells Z KB wx)
    case first =>
      as_aux_lemma =>
        cases b
        · go_wp2_with fail
          go_meet
          case rel => exact ⟨Z, KB + 2, HZ.out.noS (by omega), HG5.out⟩
        have hr0 := HBB.out (by first | trivial | rfl)
        have hnl := HZ.out.nl
        obtain ⟨AV, cV, hnv, _⟩ := owns_form HG5.out.N.own
        have x0 := HG5.out.cell (f := 0) (u := .int .i64 r) (by rw [← HZ.out.r]; rfl)
        have x1 := HG5.out.cell (f := 1) (u := Z.nv) rfl
        rw [hnv] at x1
        have HP30 := Lib.hid (pick_any p A bs c (KB + 2) r wc HG5.out.cur (by omega) (by omega))
        clear HBB hnv
        go_wp2_with fail
        (with_reducible refine HP30.out.mono ?_)
        rintro e w6 ⟨y0, rfl, hy0, hy1, hC6, hK6⟩
        have hy2 := hy1 (by omega)
        have HG6 := Lib.hid (HG5.out.draw hpB hBC hpP hK6 hC6)
        obtain ⟨AV, cV, hnv, _⟩ := owns_form HG6.out.N.own
        have x1 := HG6.out.cell (f := 1) (u := Z.nv) rfl
        rw [hnv] at x1
        have HP31 := Lib.hid (pick_any p A bs c (KB + 2 + 2) ((Z.ns.length : Int) + 1) w6 HG6.out.cur (by omega) (by omega))
        clear hC6 hK6 x0 hnv hy1 HP30
        go_wp2_with fail
        (with_reducible refine HP31.out.mono ?_)
        rintro e w7 ⟨qvi, rfl, hq0, hq1, hC7, hK7⟩
        obtain ⟨qv, rfl⟩ := Int.eq_ofNat_of_zero_le hq0
        have HG7 := Lib.hid (HG6.out.draw hpB hBC hpP hK7 hC7)
        obtain ⟨pa0, hpa0, hpa1, hpa2⟩ : ∃ pa0 : Int, pa0 = -1 - y0 ∧ -10 ≤ pa0 ∧ pa0 ≤ 30 := ⟨_, rfl, by omega, by omega⟩
        obtain ⟨AV, cV, hnv, _⟩ := owns_form HG7.out.N.own
        have x1 := HG7.out.cell (f := 1) (u := Z.nv) rfl
        rw [hnv] at x1
        rw [← hpa0]
        clear hC7 hK7 hq1 hy0 hy2 HP31 hpa0
        go_upto_region 32 with fail
        go_cut [178] from 139 to 204 (fun s wx => (∃ b, s = .bool b ∧ (b = true → qv < Z.ns.length)) ∧ GS wq p (w2.heap.size + 1 + 1) w2.heap.size Cc A bs c true Z.cells Z (KB + 2 + 2 + 2) wx)
        case first =>
          as_aux_lemma =>
            by_cases hpq : qv < Z.ns.length
            · obtain ⟨gN, cN2, lN, eN, _, m0, _, _⟩ := HG7.out.N.cells hpq
              have eq1 := hnv.symm.trans eN
              have z1 := HG7.out.cell (f := 1) (u := Z.nv) rfl
              rw [eN] at z1
              obtain ⟨⟨jc, hjc, hjl⟩, _, _⟩ := HZ.out.nd _ (List.getElem_mem hpq)
              rw [hjc] at m0
              obtain ⟨bS, oS, cS2, eS, _, _, kS⟩ := ct_at (HSIG.out w7 (HKQ.out.trans HG7.out.k)) hjl
              cases eS
              have u0 : (0 : Int) ≤ (qv : Int) := by omega
              have u1 : (qv : Int) < (Z.ns.length : Int) := by omega
              have u2 : (0 : Int) ≤ (jc : Int) := by omega
              have u3 : (jc : Int) < (sig.length : Int) := by omega
              have u5 : decide ((qv : Int) < (Z.ns.length : Int)) = true := decide_eq_true u1
              have HPQ := Lib.hid hpq
              clear eN hjc x1 eq1 hnv
              generalize (sig[jc]).2.2 = kd at *
              cases hkd : (kd == 2)
              · have hkd' : (kd != 2) = true := by rw [bne, hkd]; rfl
                go_wp2_with fail
                go_meet
                case rel => exact ⟨⟨_, rfl, fun _ => HPQ.out⟩, HG7.out⟩
              have hkd' : (kd != 2) = false := by rw [bne, hkd]; rfl
              go_wp2_with fail
              go_meet
              case rel => exact ⟨⟨_, rfl, fun _ => HPQ.out⟩, HG7.out⟩
            have u4 : ¬ (qv : Int) < (Z.ns.length : Int) := by omega
            have ud : decide ((qv : Int) < (Z.ns.length : Int)) = false := decide_eq_false u4
            go_wp2_with fail
            go_meet
            case rel => exact ⟨⟨_, rfl, fun h => by simp at h⟩, HG7.out⟩
        clear x1 HG5 HG6 HG7 hnv
        obtain ⟨⟨b, rfl, hb⟩, hG⟩ := hcut
        have HBB := Lib.hid hb
        have HG8 := Lib.hid hG
        clear hb hG
        go_upto_if 178 with fail
        go_cut [17] from 139 to 204 (fun s wx => (∃ pa : Int, s = .int .i64 pa ∧ -10 ≤ pa) ∧ GS wq p (w2.heap.size + 1 + 1) w2.heap.size Cc A bs c true Z.cells Z (KB + 2 + 2 + 2) wx)
        case first =>
          as_aux_lemma =>
            cases b
            · go_wp2_with fail
              go_meet
              case rel => exact ⟨⟨_, rfl, hpa1⟩, HG8.out⟩
            go_wp2_with fail
            go_meet
            case rel => exact ⟨⟨_, rfl, by omega⟩, HG8.out⟩
        clear HG8 HBB
        obtain ⟨⟨pa, rfl, hpa⟩, hG⟩ := hcut
        have HG9 := Lib.hid hG
        have HPA := Lib.hid hpa
        have z1 := hG.cell (f := 2) (u := Z.sv) rfl
        have hss : Z.ss.length ≤ 20 := Nat.le_trans HZ.out.sl (by omega)
        have hszB : Cc ≤ wc.heap.size := HCC.out ▸ hG.k.size
        clear hG hpa
        go_wp2_with (at_builtin; refine wpList_app el_intG rfl _ _ rfl Cc _ _ _ rfl HG9.out.S [.int .i64 pa] rfl rfl rfl (one1 rfl) (app_room hss (by decide)) hszB ?_; intro v2 wz ho hk2 hm2; obtain ⟨Av, cv, rfl, ho⟩ := owns_form ho; have HGN := Lib.hid (HG9.out.appS (x := pa) hpB hBC ho hk2); have z2 := HGN.out.cell (f := 2) (u := Z.sv) rfl; have f2 := frozen_of_row wz w2.heap.size 2 _ _ HGN.out.box)
        have HGP := Lib.hid (HGN.out.put hpB hpP 2 (.slice Av (Z.ss.length + 1) cv))
        clear ho hk2 hm2 z2 f2
        go_wp2_with fail
        go_meet
        case rel => exact ⟨{ Z with sv := .slice Av (Z.ss.length + 1) cv, ss := Z.ss ++ [pa] }, KB + 2 + 2 + 2, HZ.out.site (by omega) HPA.out, HGP.out⟩
    clear HG5 HBB HZ
    obtain ⟨Z, KB, hL, hG⟩ := hcut
    have HZ := Lib.hid hL
    have HGZ := Lib.hid hG
    have hkb := hL.kb
    have hil : Z.is.length ≤ 4 := Nat.le_trans hL.il hk4
    have HO2 := Lib.hid (one_any p A bs c KB 4 wc hG.cur (by omega) (by omega))
    clear hL hG
    go_upto_region 35 with fail
    go_cut [191] from 139 to 204 (fun s wx => (∃ b, s = .bool b) ∧ GS wq p (w2.heap.size + 1 + 1) w2.heap.size Cc A bs c true Z.cells Z (KB + 2) wx)
    case first =>
      as_aux_lemma =>
        by_cases hr0 : 0 < ed + (X.os.length : Int)
        · have q1 : decide (0 < ed + (X.os.length : Int)) = true := decide_eq_true hr0
          clear hr0
          go_wp2_with fail
          (with_reducible refine HO2.out.mono ?_)
          rintro e w5 ⟨b, rfl, hC5, hK5⟩
          have HG5 := Lib.hid (HGZ.out.draw hpB hBC hpP hK5 hC5)
          clear hC5 hK5
          go_wp2_with fail
          go_meet
          case rel => exact ⟨⟨_, rfl⟩, HG5.out⟩
        have q1 : decide (0 < ed + (X.os.length : Int)) = false := decide_eq_false hr0
        go_wp2_with fail
        go_meet
        case rel => exact ⟨⟨_, rfl⟩, HGZ.out.mono (Nat.le_add_right _ _)⟩
    clear HGZ HO2
    obtain ⟨⟨b, rfl⟩, hG⟩ := hcut
    have HG5 := Lib.hid hG
    clear hG
    go_upto_if 191 with fail
    cases b
    · have HZ2 := Lib.hid (HZ.out.noI (KC := KB + 2) (by omega))
      go_wp2_with fail
      go_roundw
      case rel => exact ⟨k + 1, Z, KB + 2, hkl, by go_num, HZ2.out, HG5.out⟩
      case measure => simp [intOf]; omega
    obtain ⟨t, ht⟩ : ∃ t : ByteArray, t = [⟨#[97]⟩, ⟨#[98]⟩, ⟨#[120]⟩, ⟨#[121]⟩].getD k default := ⟨_, rfl⟩
    have HTZ := Lib.hid (show t.size ≤ 10 from by
      rcases (show k = 0 ∨ k = 1 ∨ k = 2 ∨ k = 3 by omega) with rfl | rfl | rfl | rfl <;> (subst ht; decide))
    have HNK := Lib.hid (show ∀ W, Kept (fun q => q = p ∨ q = w2.heap.size ∨ w2.heap.size + 1 + 1 ≤ q) wq W → W.cell? ⟨w2.heap.size + 1, k, none⟩ = some (.string t) from fun W hk => by
      rw [cell_of_row _ _ _ _ _ _ (HNM.out W (HKQ.out.trans hk)), ht]
      rcases (show k = 0 ∨ k = 1 ∨ k = 2 ∨ k = 3 by omega) with rfl | rfl | rfl | rfl <;> rfl)
    have v0 : (0 : Int) ≤ (k : Int) := by omega
    have v1 : (k : Int) < 4 := by omega
    clear ht
    go_wp2_with fail
    refine wp_region_dc (by kernel_rfl) (fun L act W => ∃ (y8 : Int) (g10 : Nat) (v : Value), act = ⟨#[.pointer (some ⟨p, 0, none⟩), .slice AG sig.length cG, .int .i64 (m : Int), undef, undef, undef, .pointer (some ⟨w.heap.size, 0, none⟩), .pointer (some ⟨w2.heap.size, 0, none⟩), .slice (some ⟨w2.heap.size + 1, 0, none⟩) 4 4, .int .i64 4, .int .i64 (ed + (X.os.length : Int)), .int .i64 (q : Int), .int .i64 (q : Int), u13, u14, u15, .int .i64 (k : Int), u17, u18, .pointer (some ⟨p, 0, none⟩), .slice (some ⟨w.heap.size + 1, 0, none⟩) 5 5, .int .i64 r, .pointer (some ⟨p, 0, none⟩), .int .i64 ed, .agg #[.int .i64 r, .slice none 0 0, .slice none 0 0, .int .i64 ed, .slice none 0 0, .slice none 0 0], .slice (some ⟨w2.heap.size + 1, 0, none⟩) 4 4, .int .i64 4, .slice (some ⟨w2.heap.size + 1, 0, none⟩) 4 4, .int .i64 4, .bool false, u30, u31, u32, u33, u34, u35, u36, u37, u38, u39, u40, u41, u42, .pointer (some ⟨w2.heap.size, 3, none⟩), .int .i64 ed, .pointer (some ⟨w2.heap.size, 4, none⟩), .slice AO X.os.length cO, .int .i64 (X.os.length : Int), .int .i64 (ed + (X.os.length : Int)), .pointer (some ⟨p, 0, none⟩), .int .i64 (m : Int), .int .i64 ((m : Int) + 1), .int .i64 (n : Int), u53, u54, u55, u56, u57, u58, u59, .bool bz, .int .i64 (q : Int), .int .i64 (q : Int), .bool false, u64, u65, u66, u67, u68, u69, u70, u71, u72, u73, u74, u75, u76, u77, u78, u79, u80, u81, u82, u83, u84, u85, u86, u87, u88, u89, u90, u91, u92, u93, u94, u95, u96, u97, u98, u99, u100, u101, u102, u103, u104, u105, u106, u107, u108, u109, u110, u111, u112, u113, u114, u115, u116, u117, u118, u119, u120, u121, u122, u123, u124, u125, u126, u127, u128, u129, u130, u131, u132, u133, u134, u135, u136, u137, u138, u139, u140, u141, u142, u143, u144, u145, u146, u147, u148, u149, u150, u151, u152, u153, u154, u155, u156, u157, u158, u159, u160, u161, u162, u163, u164, u165, u166, u167, u168, u169, u170, u171, u172, u173, u174, u175, u176, u177, u178, u179, u180, u181, u182, u183, u184, u185, u186, u187, u188, u189, u190, .bool true, bsel (L 0) (.pointer (some ⟨w2.heap.size, 5, none⟩)) (u192), bsel (L 1) (Z.iv) (u193), bsel (L 2) (.slice (some ⟨w2.heap.size + 1, 0, none⟩) 4 4) (u194), bsel (L 3) (.int .i64 (k : Int)) (u195), bsel (L 4) (.pointer (some ⟨w2.heap.size + 1, k, none⟩)) (u196), bsel (L 5) (.string t) (u197), bsel (L 6) (.pointer (some ⟨p, 0, none⟩)) (u198), bsel (L 7) (.int .i64 (ed + (X.os.length : Int))) (u199), bsel (L 8) (.int .i64 y8) (u200), bsel (L 9) (.agg #[.string t, .int .i64 y8]) (u201), bsel (L 10) (.slice (some ⟨g10, 0, none⟩) 1 1) (u202), bsel (L 11) (v) (u203), bsel (L 12) (.pointer (some ⟨w2.heap.size, 5, none⟩)) (u204), u205, u206, u207], []⟩ ∧ RF p Cc (KB + 2) 14 11 13 (fun K2 W => GS wq p (w2.heap.size + 1 + 1) w2.heap.size Cc A bs c true Z.cells Z K2 W) (fun v W => GS wq p (w2.heap.size + 1 + 1) w2.heap.size Cc A bs c true Z.cells { Z with iv := v, is := Z.is ++ [((t, y8) : Wi)] } (KB + 40) W) (fun W => ∃ z, GS wq p (w2.heap.size + 1 + 1) w2.heap.size Cc A bs c true (BX.cells { Z with iv := z, is := Z.is ++ [((t, y8) : Wi)] }) { Z with iv := z, is := Z.is ++ [((t, y8) : Wi)] } (KB + 40) W) [(10, g10, .cells #[.string t, .int .i64 y8] 90)] L v W ∧ (L 8 = true → 0 ≤ y8)) ?h40 ?s4t ?f4i
    case h40 => exact ⟨0, 0, undef, rfl, RF.start (HG5.out.drew), fun h => (nomatch h)⟩
    case s4t =>
      as_aux_lemma =>
        intro L act W q oo hJ hC hL ho hd K3 hK3
        obtain ⟨y8, g10, v, rfl, hF, hR8⟩ := hJ
        match q, ho with
        | 0, ho | 2, ho | 3, ho | 4, ho | 6, ho | 7, ho | 9, ho | 12, ho =>
          cases ho
          simp [Region.binds] at hd
          try simp only [hd, bsel_t]
          have HF := Lib.hid hF
          clear hF hC
          have HR8 := Lib.hid hR8
          clear hR8
          go_simp
          exact hK3 _ _ ⟨y8, g10, v, by first | (simp [upd, bsel]; done) | simp [upd, bsel, hd], HF.out.pure hL (by decide) (by decide) (by simp), by simpa [upd] using HR8.out⟩
        | 1, ho =>
          cases ho
          simp [Region.binds] at hd
          have n11 : L 11 = false := dc_no hC hL (by kernel_rfl)
          obtain ⟨K2, hK2, hD⟩ := hF.d n11
          have s0 := hD.cell (f := 5) (u := Z.iv) rfl
          clear hD hK2
          try simp only [hd, bsel_t]
          have HF := Lib.hid hF
          clear hF hC
          have HR8 := Lib.hid hR8
          clear hR8
          go_simp
          exact hK3 _ _ ⟨y8, g10, v, by first | (simp [upd, bsel]; done) | (simp [upd, bsel, n11]; done) | simp [upd, bsel, hd, n11], HF.out.pure hL (by decide) (by decide) (by simp), by simpa [upd] using HR8.out⟩
        | 5, ho =>
          cases ho
          simp [Region.binds] at hd
          have n11 : L 11 = false := dc_no hC hL (by kernel_rfl)
          obtain ⟨K2, hK2, hD⟩ := hF.d n11
          have s0 := HNK.out W hD.k
          clear hD hK2
          try simp only [hd, bsel_t]
          have HF := Lib.hid hF
          clear hF hC
          have HR8 := Lib.hid hR8
          clear hR8
          go_simp
          exact hK3 _ _ ⟨y8, g10, v, by first | (simp [upd, bsel]; done) | (simp [upd, bsel, n11]; done) | simp [upd, bsel, hd, n11], HF.out.pure hL (by decide) (by decide) (by simp), by simpa [upd] using HR8.out⟩
        | 8, ho =>
          cases ho
          simp [Region.binds] at hd
          have n9 : L 9 = false := dc_no hC hL (by kernel_rfl)
          have n10 : L 10 = false := dc_no hC hL (by kernel_rfl)
          have n11 : L 11 = false := dc_no hC hL (by kernel_rfl)
          obtain ⟨K2, hK2, hD⟩ := hF.d n11
          try simp only [hd, bsel_t]
          have HF := Lib.hid hF
          clear hF hC
          have HR8 := Lib.hid hR8
          clear hR8
          have HD := Lib.hid hD
          clear hD
          go_simp
          go_at_call 97
          refine (pick_any p A bs c K2 ((ed + (X.os.length : Int))) W HD.out.cur (by have := cnt_le L 14; omega) (by omega)).mono ?_
          rintro e W' ⟨y8', rfl, hy0, hy1, hC', hk'⟩
          go_simp
          exact hK3 _ _ ⟨y8', g10, v, by first | (simp [upd, bsel]; done) | (simp [upd, bsel, n9, n10, n11]; done) | simp [upd, bsel, hd, n9, n10, n11], HF.out.draw2 (by decide) hL n11 (by decide) (by decide) (by simp [n10]) (K2 := K2 + 2) (by omega) (by omega) (HD.out.draw hpB hBC hpP hk' hC') hk', fun _ => hy0⟩
        | 10, ho =>
          cases ho
          simp [Region.binds] at hd
          have n11 : L 11 = false := dc_no hC hL (by kernel_rfl)
          try simp only [hd, bsel_t]
          have HF := Lib.hid hF
          clear hF
          have HC := Lib.hid hC
          clear hC
          have HR8 := Lib.hid hR8
          clear hR8
          go_simp
          exact hK3 _ _ ⟨y8, W.heap.size, v, by first | (simp [upd, bsel]; done) | (simp [upd, bsel, n11]; done) | simp [upd, bsel, hd, n11], HF.out.lit hL n11 (by decide) (by decide) (by simp) (fun K2 h => HCC.out ▸ h.k.size) (fun K2 h => h.alloc _), by simpa [upd] using HR8.out⟩
        | 11, ho =>
          cases ho
          simp [Region.binds] at hd
          obtain ⟨K2, hK2, hD⟩ := hF.d hL
          have l10 : L 10 = true := by simp [hd]
          obtain ⟨hg1, hg2⟩ := hF.li hL (10, g10, .cells #[.string t, .int .i64 y8] 90) (by simp) l10
          simp only [hd, bsel_t]
          have HF := Lib.hid hF
          clear hF
          have HC := Lib.hid hC
          clear hC
          have HR8 := Lib.hid hR8
          clear hR8
          refine step_appR el_wiG rfl (.tmp 193) (.tmp 202) rfl (w2.heap.size + 1 + 1) (Z.iv) Z.is.length (Z.is.flatMap encWi) (by rfl) (hD.I) ⟨g10, 0, none⟩ 1 1 [.string t, .int .i64 y8] (by rfl) rfl (fun j' u' hj' => by rw [show (⟨g10, 0, none⟩ : Addr).add j' = ⟨g10, j', none⟩ from by simp [Addr.add, eq_comm], cell_of_row W g10 _ _ _ _ hg2]; simpa using hj') (by intro u hu; simp at hu; rcases hu with rfl | rfl <;> rfl) (by unfold maxLen; omega) (by omega) (by have := hD.k.size; have := HCC.out; omega) ?_
          intro v' W' ho hg
          have HE := Lib.hid ((hD.appI (x := (t, y8)) hpB ho (kept_of_grown hg)).mono (K' := KB + 40) (by have := cnt_le L 14; omega))
          clear ho hg hD
          go_simp
          exact hK3 _ _ ⟨y8, g10, v', by first | (simp [upd, bsel]; done) | simp [upd, bsel, hd], HF.out.app hL (by decide) HE.out, by simpa [upd] using HR8.out⟩
        | 13, ho =>
          cases ho
          simp [Region.binds] at hd
          have lA : L 11 = true := by simp [hd]
          have hE := hF.e lA hL
          obtain ⟨Av, cv, rfl, _⟩ := owns_form (show W.ownsRow (w2.heap.size + 1 + 1) 90 2 v (Z.is.length + 1) ((Z.is ++ [((t, y8) : Wi)]).flatMap encWi) from (by have h := hE.I; simp only [List.length_append, List.length_cons, List.length_nil] at h; exact h))
          have s0 := hE.cell (f := 5) (u := Z.iv) rfl
          have f0 := frozen_of_row W w2.heap.size 5 _ _ hE.box
          have HFF := Lib.hid (show ∃ z, GS wq p (w2.heap.size + 1 + 1) w2.heap.size Cc A bs c true (BX.cells { Z with iv := z, is := Z.is ++ [((t, y8) : Wi)] }) { Z with iv := z, is := Z.is ++ [((t, y8) : Wi)] } (KB + 40) (W.setCell ⟨w2.heap.size, 5, none⟩ (.slice Av (Z.is.length + 1) cv)) from ⟨_, hE.put hpB hpP 5 _⟩)
          clear hE
          try simp only [hd, bsel_t]
          have HF := Lib.hid hF
          clear hF hC
          have HR8 := Lib.hid hR8
          clear hR8
          go_simp
          exact hK3 _ _ ⟨y8, g10, (.slice Av (Z.is.length + 1) cv), by first | (simp [upd, bsel]; done) | simp [upd, bsel, hd], HF.out.store lA (by decide) HFF.out, by simpa [upd] using HR8.out⟩
        | q + 14, ho => simp at ho
    intro L act W hJ hfin
    obtain ⟨y8, g10, v, rfl, hF, hR8⟩ := hJ
    have ll := fin_all 14 (by kernel_rfl) hfin
    have l0 := ll 0 (by decide)
    have l1 := ll 1 (by decide)
    have l2 := ll 2 (by decide)
    have l3 := ll 3 (by decide)
    have l4 := ll 4 (by decide)
    have l5 := ll 5 (by decide)
    have l6 := ll 6 (by decide)
    have l7 := ll 7 (by decide)
    have l8 := ll 8 (by decide)
    have l9 := ll 9 (by decide)
    have l10 := ll 10 (by decide)
    have l11 := ll 11 (by decide)
    have l12 := ll 12 (by decide)
    have l13 := ll 13 (by decide)
    simp only [l0, l1, l2, l3, l4, l5, l6, l7, l8, l9, l10, l11, l12, l13, bsel_t]
    have HR8 := Lib.hid (hR8 l8)
    have HFIN := Lib.hid (hF.f l13)
    clear hF hfin l0 l1 l2 l3 l4 l5 l6 l7 l8 l9 l10 l11 l12 l13 hR8
    obtain ⟨z, hz⟩ := HFIN.out
    have HGC := Lib.hid hz
    have HZ2 := Lib.hid (HZ.out.wire (KC := KB + 40) (v := z) (x := (t, y8)) (by omega) HTZ.out)
    clear hz HFIN
    go_wp2_with fail
    go_roundw
    case rel => exact ⟨k + 1, _, KB + 40, hkl, by go_num, HZ2.out, HGC.out⟩
    case measure => simp [intOf]; omega
  obtain rfl : k = 4 := Nat.le_antisymm hk4 (Nat.le_of_not_lt hkl)
  have HZ := Lib.hid hL
  have HGZ := Lib.hid hG
  have hkb := hL.kb
  obtain ⟨AN, cN, eN, _⟩ := owns_form hG.N.own
  obtain ⟨AS, cS, eS, _⟩ := owns_form hG.S
  obtain ⟨AO2, cO2, eO, _⟩ := owns_form hG.O
  obtain ⟨AI, cI, eI, _⟩ := owns_form hG.I
  have y0 := hG.cell (f := 0) (u := .int .i64 Z.r) rfl
  have y1 := hG.cell (f := 1) (u := Z.nv) rfl
  have y2 := hG.cell (f := 2) (u := Z.sv) rfl
  have y3 := hG.cell (f := 3) (u := .int .i64 Z.e) rfl
  have y4 := hG.cell (f := 4) (u := Z.ov) rfl
  have y5 := hG.cell (f := 5) (u := Z.iv) rfl
  rw [eN] at y1
  rw [eS] at y2
  rw [eO] at y4
  rw [eI] at y5
  have hszr := hG.k.size
  have HHM := Lib.hid (harmed_any p (w2.heap.size + 1 + 1) w2.heap.size Cc A bs c KB Z AN AS AO2 AI cN cS cO2 cI wq wr hG eN eS eO eI (hL.sx (by decide) (by decide) hr3 ⟨he0, he2⟩) (kb_ok hkb hK) hpB hBC (HCC.out ▸ hszr))
  have HRB := Lib.hid (res_kept HR0.out HKN.out HKQ.out hG.k hpwn hwP hwB)
  clear hL hG eN eS eO eI hszr
  go_wp2_with fail
  (with_reducible refine HHM.out.mono ?_)
  rintro e w9 ⟨nv', sv', ov', iv', g, rfl, hr9, hsm9, hC9, hK9⟩
  obtain ⟨AN', cN', AS', cS', AO', cO', AI', cI', rfl, rfl, rfl, rfl⟩ := hr9.now.form
  have hrb9 := res_kept2 HRB.out hK9 hpwn hwB
  obtain ⟨z0, z1, z2, z3, z4, z5, f0, f1, f2, f3, f4, f5⟩ := row6f hrb9
  have HRB9 := Lib.hid hrb9
  have HR9 := Lib.hid hr9
  have HSM9 := Lib.hid hsm9
  have HC9 := Lib.hid hC9
  have HK9 := Lib.hid hK9
  clear hr9 hsm9 hC9 hK9 hrb9 y0 y1 y2 y3 y4 y5
  go_simp
  go_step
  go_step
  go_simp
  go_step
  repeat go_step
  have e0 := heap_setCell_same w9 w.heap.size 0 _ _ (.int .i64 g.roots) HRB9.out
  have e1 := heap_setCell_same _ w.heap.size 1 _ _ (.slice AN' g.nodes.length cN') e0
  have e2 := heap_setCell_same _ w.heap.size 2 _ _ (.slice AS' g.sites.length cS') e1
  have e3 := heap_setCell_same _ w.heap.size 3 _ _ (.int .i64 g.edges) e2
  have e4 := heap_setCell_same _ w.heap.size 4 _ _ (.slice AO' g.outer.length cO') e3
  have e5 := heap_setCell_same _ w.heap.size 5 _ _ (.slice AI' g.inner.length cI') e4
  have hKF := (((((((Kept.refl (fun q => q = w.heap.size) w9).setCell (p := ⟨w.heap.size, 0, none⟩) rfl (.int .i64 g.roots)).setCell (p := ⟨w.heap.size, 1, none⟩) rfl (.slice AN' g.nodes.length cN')).setCell (p := ⟨w.heap.size, 2, none⟩) rfl (.slice AS' g.sites.length cS')).setCell (p := ⟨w.heap.size, 3, none⟩) rfl (.int .i64 g.edges)).setCell (p := ⟨w.heap.size, 4, none⟩) rfl (.slice AO' g.outer.length cO')).setCell (p := ⟨w.heap.size, 5, none⟩) rfl (.slice AI' g.inner.length cI'))
  (try simp only [Exit.inBlock, Exit.then])
  refine bodyPost_ret (results_cell_row rfl _ _ w.heap.size _ #[.int .i64 g.roots, .slice AN' g.nodes.length cN', .slice AS' g.sites.length cS', .int .i64 g.edges, .slice AO' g.outer.length cO', .slice AI' g.inner.length cI'] _ _ rfl e5 Tryz.underlying31 rfl (by kernel_rfl)) rfl ?_
  exact ⟨_, _, _, _, g, rfl, rk_fin HR9.out hKF hwB, HSM9.out, cur_fin HC9.out hKF hpw (kb_fin2 hkb), bg_kept HB0.out HKN.out HKQ.out HGZ.out.k HK9.out hKF hwP hwB⟩

end Go.Proofs.YtijkdpdmclkmlaaGreatDoor
