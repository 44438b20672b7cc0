/- DERIVED: THE SHELF's CONTRACTS AT THIS DUMP, IN PLAIN WORDS (tools/lay-plain.mjs out of 'YtijkdpdmclkmlaaGreatDoorShelfNA.lean', which tools/lay-shelf.mjs wrote): THE SAME DECLARATIONS UNDER THE SAME NAMES: 'import', 'namespace', 'open', 'def', 'theorem' AND NOTHING ELSE: no command of the shelf's: FOR A HAND-IN. Each laying: the table of numbers ('.._ren') and one theorem, a field a fact of the dump's own or the kernel's comparison; each contract: ONE APPLICATION. slices.Sort at numbers: at a row of one's own, nil or not. Elements: identities, both packages walked. The inverse, as both packages make it: one and the same. -/
import Derived.Ground.NamesProg
import Derived.Shelf.Sort.Plain
import Derived.Test.YtijkdpdmclkmlaaGreatDoorProg
import Derived.Test.YtijkdpdmclkmlaaGreatDoorJ8
import Derived.Test.YtijkdpdmclkmlaaGreatDoorJ9
import Derived.Test.YtijkdpdmclkmlaaGreatDoorJ15
import Derived.Test.YtijkdpdmclkmlaaGreatDoorJ20
import Derived.Sort.OwnSortedInts
import Derived.BigQuiet
import Derived.Test.YtijkdpdmclkmlaaGreatDoorJ0
import Derived.Test.YtijkdpdmclkmlaaGreatDoorJ19
import Derived.Test.YtijkdpdmclkmlaaGreatDoorJ3
import Derived.Test.YtijkdpdmclkmlaaGreatDoorJ14
import Derived.Test.YtijkdpdmclkmlaaGreatDoorJ10
import Derived.Test.YtijkdpdmclkmlaaGreatDoorJ6
import Derived.Test.YtijkdpdmclkmlaaGreatDoorJ16
import Derived.Test.YtijkdpdmclkmlaaGreatDoorJ7
import Derived.Test.YtijkdpdmclkmlaaGreatDoorJ1
import Derived.Test.YtijkdpdmclkmlaaGreatDoorJ5
set_option linter.unusedSimpArgs false
set_option linter.unusedVariables false
set_option maxRecDepth 100000
set_option maxHeartbeats 16000000
namespace Go.Proofs
open Go.Shelf
def Tryz.lays190_ren : Go.Shelf.Ren := ⟨fun | 190 => 199 | 125 => 236 | 258 => 246 | 128 => 264 | 129 => 265 | 302 => 270 | 303 => 271 | 304 => 272 | 305 => 273 | 306 => 274 | 307 => 275 | 308 => 276 | 309 => 277 | 310 => 278 | 333 => 296 | 329 => 288 | 330 => 289 | 334 => 297 | 335 => 298 | 336 => 299 | 344 => 308 | n => n, fun | 31 => 24 | 9 => 9 | 3 => 3 | 46 => 128 | 0 => 0 | 51 => 168 | 53 => 70 | 4 => 4 | 183 => 189 | 182 => 188 | 131 => 194 | 5 => 5 | 218 => 213 | 222 => 217 | 228 => 224 | 229 => 37 | n => n, fun | n => n⟩
theorem Tryz.lays190 : Go.Proofs.Lays.n190 Tryz.prog Tryz.lays190_ren := {
  mixed := by kernel_rfl
  f125 := Tryz.func236.trans (congrArg some (by kernel_rfl))
  f128 := Tryz.func264.trans (congrArg some (by kernel_rfl))
  f129 := Tryz.func265.trans (congrArg some (by kernel_rfl))
  f190 := Tryz.func199.trans (congrArg some (by kernel_rfl))
  f258 := Tryz.func246.trans (congrArg some (by kernel_rfl))
  f302 := Tryz.func270.trans (congrArg some (by kernel_rfl))
  f303 := Tryz.func271.trans (congrArg some (by kernel_rfl))
  f304 := Tryz.func272.trans (congrArg some (by kernel_rfl))
  f305 := Tryz.func273.trans (congrArg some (by kernel_rfl))
  f306 := Tryz.func274.trans (congrArg some (by kernel_rfl))
  f307 := Tryz.func275.trans (congrArg some (by kernel_rfl))
  f308 := Tryz.func276.trans (congrArg some (by kernel_rfl))
  f309 := Tryz.func277.trans (congrArg some (by kernel_rfl))
  f310 := Tryz.func278.trans (congrArg some (by kernel_rfl))
  f329 := Tryz.func288.trans (congrArg some (by kernel_rfl))
  f330 := Tryz.func289.trans (congrArg some (by kernel_rfl))
  f333 := Tryz.func296.trans (congrArg some (by kernel_rfl))
  f334 := Tryz.func297.trans (congrArg some (by kernel_rfl))
  f335 := Tryz.func298.trans (congrArg some (by kernel_rfl))
  f336 := Tryz.func299.trans (congrArg some (by kernel_rfl))
  f344 := Tryz.func308.trans (congrArg some (by kernel_rfl))
  t0 := Tryz.underlying0
  a0 := Tryz.isAgg0
  z0 := Tryz.sizeOf0
  v0 := Tryz.zeroValue0
  t3 := Tryz.underlying3
  a3 := Tryz.isAgg3
  z3 := Tryz.sizeOf3
  v3 := Tryz.zeroValue3
  t4 := Tryz.underlying4
  a4 := Tryz.isAgg4
  z4 := Tryz.sizeOf4
  v4 := Tryz.zeroValue4
  t5 := Tryz.underlying5
  a5 := Tryz.isAgg5
  z5 := Tryz.sizeOf5
  v5 := Tryz.zeroValue5
  t9 := Tryz.underlying9
  a9 := Tryz.isAgg9
  z9 := Tryz.sizeOf9
  v9 := Tryz.zeroValue9
  t31 := Tryz.underlying24
  a31 := Tryz.isAgg24
  z31 := Tryz.sizeOf24
  v31 := Tryz.zeroValue24
  t46 := Tryz.underlying128
  a46 := Tryz.isAgg128
  z46 := Tryz.sizeOf128
  v46 := Tryz.zeroValue128
  t51 := Tryz.underlying168
  a51 := Tryz.isAgg168
  z51 := Tryz.sizeOf168
  v51 := Tryz.zeroValue168
  t53 := Tryz.underlying70
  a53 := Tryz.isAgg70
  z53 := Tryz.sizeOf70
  v53 := Tryz.zeroValue70
  t131 := Tryz.underlying194
  a131 := Tryz.isAgg194
  z131 := Tryz.sizeOf194
  v131 := Tryz.zeroValue194
  t182 := Tryz.underlying188
  a182 := Tryz.isAgg188
  z182 := Tryz.sizeOf188
  v182 := Tryz.zeroValue188
  t183 := Tryz.underlying189
  a183 := Tryz.isAgg189
  z183 := Tryz.sizeOf189
  v183 := Tryz.zeroValue189
  t218 := Tryz.underlying213
  a218 := Tryz.isAgg213
  z218 := Tryz.sizeOf213
  v218 := Tryz.zeroValue213
  t222 := Tryz.underlying217
  a222 := Tryz.isAgg217
  z222 := Tryz.sizeOf217
  v222 := Tryz.zeroValue217
  t228 := Tryz.underlying224
  a228 := Tryz.isAgg224
  z228 := Tryz.sizeOf224
  v228 := Tryz.zeroValue224
  t229 := Tryz.underlying37
  a229 := Tryz.isAgg37
  z229 := Tryz.sizeOf37
  v229 := Tryz.zeroValue37 }
end Go.Proofs

namespace Go.Proofs.YtijkdpdmclkmlaaGreatDoor
open Go.RowKit
open Go.Sort (grow)

theorem bitsLenG_zero (w : World) : Calls Tryz.prog 236 #[.int .u64 0] w fun e w' => (∃ n, e = .returned (.int .i64 n)) ∧ w = w' := by
  go_enter Tryz.func236, Tryz.ntmps236
  go_wp2
  go_ret
  exact ⟨⟨_, rfl⟩, rfl⟩

end Go.Proofs.YtijkdpdmclkmlaaGreatDoor

namespace Go.Proofs.YtijkdpdmclkmlaaGreatDoor
open Go.RowKit
theorem identity_any (n : Nat) (A : Option Addr) (c : Nat) (names : List ByteArray) (w : World) (hn : n ≤ 1000) (hl : names.length ≤ 1000) (hA : Cells w A (strs names)) :
    Calls Tryz.prog 92 #[.int .i64 (n : Int), .slice A names.length c] w fun e w' => ∃ X : BX, e = .returned (.agg X.cells) ∧ X.g = idG n names ∧ RG w w' X := by
  have HA := Lib.hid (show ∀ W, Below w.heap.size w W → Cells W A (strs names) from fun W hb => hA.below hb)
  obtain ⟨w0, hw0, hb0, hs0, hR0⟩ := laid1 w (.cells ZB 31)
  have HB0 := Lib.hid hb0
  have HR0 := Lib.hid hR0
  have HC := Lib.hid (cloneSG_any A c names w0 (by omega) (HA.out w0 hb0))
  have HW0 := Lib.hid (show w.alloc (.cells #[.int .i64 0, .slice none 0 0, .slice none 0 0, .int .i64 0, .slice none 0 0, .slice none 0 0] 31) = w0 from hw0.symm)
  clear hA hb0 hR0 hw0
  go_enter Tryz.func92, Tryz.ntmps92
  go_wp2_with fail
  rw [HW0.out]
  (with_reducible refine HC.out.mono ?_)
  rintro e w1 ⟨u, rfl, hu, hb1⟩
  rw [hs0] at hu hb1
  obtain ⟨AO, cO, rfl, hu⟩ := owns_form hu
  have HU := Lib.hid hu
  have HB1 := Lib.hid hb1
  clear hu hb1 HC
  go_wp2_with fail
  have hs1 : w.heap.size + 1 ≤ w1.heap.size := by have := HB1.out.size; omega
  obtain ⟨wN, hwN⟩ : ∃ wN, wN = w1.alloc (.cells #[.int .i64 (n : Int), .slice none 0 0, .slice none 0 0, .int .i64 0, .slice AO names.length cO, .slice none 0 0] 31) := ⟨_, rfl⟩
  have hbN : Below (w.heap.size + 1) w0 wN := by rw [hwN]; exact HB1.out.alloc hs1 _
  have HBN := Lib.hid (HB0.out.trans (hbN.mono (Nat.le_succ _)))
  have HRN := Lib.hid ((hbN.block w.heap.size (Nat.lt_succ_self _)).trans HR0.out)
  have HG0 := Lib.hid (show GT wN (w.heap.size + 1) w1.heap.size (BX.cells (bI (n : Int) (.slice AO names.length cO) names nilV ((List.range 0).map fun i : Nat => -1 - (i : Int)) nilV [])) (bI (n : Int) (.slice AO names.length cO) names nilV ((List.range 0).map fun i : Nat => -1 - (i : Int)) nilV []) wN from
    { k := Kept.refl _ _, box := by rw [hwN]; exact heap_alloc_new _ _
      ob := { N := { own := none_row, len := rfl, lk := fun i l x h => by simp [bI] at h, dis := fun i j l l' b _ h => by simp [bI] at h, sep := fun i l b h => by simp [bI] at h }, S := none_row, I := none_row
              O := by rw [hwN]; exact owns_below HU.out ((Below.refl _ _).alloc (Nat.le_refl _) _) (Nat.le_refl _) } })
  have hsN : w.heap.size + 1 ≤ wN.heap.size := by rw [hwN]; simp; omega
  have HWN := Lib.hid hwN
  clear hwN hbN
  rw [← HWN.out]
  go_loopw [14] (fun i wr => ∃ (k : Nat) (sv : Value), k ≤ n ∧ i = .int .i64 k ∧ GT wN (w.heap.size + 1) w1.heap.size (BX.cells (bI (n : Int) (.slice AO names.length cO) names sv ((List.range k).map fun i : Nat => -1 - (i : Int)) nilV [])) (bI (n : Int) (.slice AO names.length cO) names sv ((List.range k).map fun i : Nat => -1 - (i : Int)) nilV []) wr)
    (fun i _ => n - (intOf i).toNat)
  case atStart => exact ⟨0, nilV, Nat.zero_le _, rfl, HG0.out⟩
  obtain ⟨k, sv, hk, rfl, hG⟩ := hrel
  have hS := bI_S hG
  obtain ⟨AS, cS, rfl, hS⟩ := owns_form hS
  have hsz : w.heap.size + 1 ≤ wr.heap.size := by have := hG.k.size; omega
  have z2 := hG.cell (f := 2) (u := .slice AS k cS) rfl
  have HS := Lib.hid hS
  have HG := Lib.hid hG
  clear hS hG
  by_cases hlt : k < n
  · go_wp2_with (at_builtin; refine wpList_app el_intG rfl _ _ rfl (w.heap.size + 1) _ _ _ rfl HS.out [.int .i64 (-1 - (k : Int))] rfl rfl rfl (one1 rfl) (by omega) hsz ?_; intro v2 w2 ho hk2 hm2; obtain ⟨Av, cv, rfl, ho⟩ := owns_form ho; have HGN := Lib.hid (HG.out.addS ho hk2 hm2); have z2 := HGN.out.cell (f := 2) (u := .slice AS k cS) rfl; have f2 := frozen_of_row w2 w1.heap.size 2 _ _ HGN.out.box; clear ho hk2 hm2)
    have HG2 := Lib.hid (HGN.out.put 2 (.slice Av (k + 1) cv))
    go_wp2_with fail
    go_roundw
    case rel => exact ⟨k + 1, _, by omega, by go_num, HG2.out⟩
    case measure => simp [intOf]; omega
  obtain rfl : n = k := by omega
  clear z2
  go_wp2_with fail
  obtain ⟨wa', hwa'⟩ : ∃ wa', wa' = wr := ⟨_, rfl⟩
  subst hwa'
  go_loopw [27] (fun i wr => ∃ (j : Nat) (iv : Value), j ≤ names.length ∧ i = .int .i64 j ∧ GT wN (w.heap.size + 1) w1.heap.size (BX.cells (bI (n : Int) (.slice AO names.length cO) names (.slice AS n cS) ((List.range n).map fun i : Nat => -1 - (i : Int)) iv ((List.range j).map fun i : Nat => (names.getD i default, (i : Int))))) (bI (n : Int) (.slice AO names.length cO) names (.slice AS n cS) ((List.range n).map fun i : Nat => -1 - (i : Int)) iv ((List.range j).map fun i : Nat => (names.getD i default, (i : Int)))) wr)
    (fun i _ => names.length - (intOf i).toNat)
  case atStart => exact ⟨0, nilV, Nat.zero_le _, rfl, HG.out⟩
  obtain ⟨j, iv, hj, rfl, hG⟩ := hrel
  have hI := bI_I hG
  obtain ⟨AI, cI, rfl, hI⟩ := owns_form hI
  have hsz : w.heap.size + 1 ≤ wr.heap.size := by have := hG.k.size; omega
  have z5 := hG.cell (f := 5) (u := .slice AI j cI) rfl
  have HI := Lib.hid hI
  clear HG
  have HG := Lib.hid hG
  clear hI
  by_cases hlt : j < names.length
  · obtain ⟨b, o, rfl, hc⟩ := (HA.out wr (gt_below hG HBN.out (by omega))).str hlt
    have k0 := hc j hlt
    obtain ⟨s, hse⟩ : ∃ s, s = names.getD j default := ⟨_, rfl⟩
    rw [← hse] at k0
    have HSE := Lib.hid hse
    clear hc hse hG
    go_wp2_with (at_builtin; refine wpList_app el_wireG rfl _ _ rfl (w.heap.size + 1) _ _ _ rfl HI.out [.string s, .int .i64 ((j : Int))] rfl rfl rfl (wi_one _ _) (by omega) hsz ?_; intro v2 w2 ho hk2 hm2; obtain ⟨Av, cv, rfl, ho⟩ := owns_form ho; have HGN := Lib.hid (HG.out.addI (by rw [← HSE.out]; exact ho) hk2); have z5 := HGN.out.cell (f := 5) (u := .slice AI j cI) rfl; have f5 := frozen_of_row w2 w1.heap.size 5 _ _ HGN.out.box; clear ho hk2 hm2)
    have HG2 := Lib.hid (HGN.out.put 5 (.slice Av (j + 1) cv))
    go_wp2_with fail
    go_roundw
    case rel => exact ⟨j + 1, _, by omega, by go_num, HG2.out⟩
    case measure => simp [intOf]; omega
  obtain rfl : j = names.length := by omega
  clear hG z5
  have x0 := HG.out.cell (f := 0) (u := .int .i64 (n : Int)) rfl
  have x1 := HG.out.cell (f := 1) (u := .slice none 0 0) rfl
  have x2 := HG.out.cell (f := 2) (u := .slice AS n cS) rfl
  have x3 := HG.out.cell (f := 3) (u := .int .i64 0) rfl
  have x4 := HG.out.cell (f := 4) (u := .slice AO names.length cO) rfl
  have x5 := HG.out.cell (f := 5) (u := .slice AI names.length cI) rfl
  have hRW := (HG.out.k.block w.heap.size (by have := (Array.getElem?_eq_some_iff.1 HRN.out).1; exact this) (by omega)).trans HRN.out
  obtain ⟨z0, z1, z2, z3, z4, z5, f0, f1, f2, f3, f4, f5⟩ := row6f hRW
  clear hRW
  go_wp2_with fail
  have hf := fin6 HBN.out HRN.out (by omega) HG.out
  (try simp only [Exit.inBlock, Exit.then])
  refine bodyPost_ret (results_cell_row rfl _ _ w.heap.size _ _ _ _ rfl hf.1 Tryz.underlying31 rfl (by kernel_rfl)) rfl ?_
  exact ⟨_, rfl, rfl, hf.2⟩

theorem names_asc {l : List ByteArray} (h : namesB l = true) : AscS l := by
  unfold AscS
  rw [List.pairwise_iff_getElem]
  intro i j hi hj hij
  have := names_lt h j i hij hj
  rw [getD_some (List.getElem?_eq_getElem hi), getD_some (List.getElem?_eq_getElem hj)] at this
  exact this
theorem asc_nodup {l : List ByteArray} (h : AscS l) : l.Nodup := List.Pairwise.imp (fun h => less_ne h) h
theorem least_ex (P : Nat → Prop) : ∀ n, (∃ k, k < n ∧ P k) → ∃ k, k < n ∧ P k ∧ ∀ j, j < k → ¬ P j
  | 0, ⟨k, h, _⟩ => absurd h (Nat.not_lt_zero _)
  | n + 1, h => by
    by_cases h2 : ∃ k, k < n ∧ P k
    · obtain ⟨k, a, b, c⟩ := least_ex P n h2
      exact ⟨k, by omega, b, c⟩
    obtain ⟨k, a, b⟩ := h
    exact ⟨k, a, b, fun j hj hp => h2 ⟨j, by omega, hp⟩⟩
theorem idx_atS (l : List ByteArray) (s : ByteArray) : idxR l.length (fun k => decide (l.getD k default = s)) = atS l s := by
  by_cases h : ∃ k, k < l.length ∧ l.getD k default = s
  · obtain ⟨k, hk, h1, h2⟩ := least_ex _ _ h
    rw [idxR_some hk (fun j hj => decide_eq_false (h2 j hj)) (decide_eq_true h1), atS_some hk h1 h2]
  have h2 : ∀ j, j < l.length → l.getD j default ≠ s := fun j hj e => h ⟨j, hj, e⟩
  rw [idxR_none (fun j hj => decide_eq_false (h2 j hj)), atS_none h2]

section
variable {sig : List Ct} {g : Gr}
end

end Go.Proofs.YtijkdpdmclkmlaaGreatDoor
