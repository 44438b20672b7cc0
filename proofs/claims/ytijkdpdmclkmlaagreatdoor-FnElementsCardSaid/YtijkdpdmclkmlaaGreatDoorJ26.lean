/- DERIVED: THE SHELF's CONTRACTS AT THIS DUMP, IN PLAIN WORDS (tools/lay-plain.mjs out of 'YtijkdpdmclkmlaaGreatDoorShelfNA.lean', which tools/lay-shelf.mjs wrote): THE SAME DECLARATIONS UNDER THE SAME NAMES: 'import', 'namespace', 'open', 'def', 'theorem' AND NOTHING ELSE: no command of the shelf's: FOR A HAND-IN. Each laying: the table of numbers ('.._ren') and one theorem, a field a fact of the dump's own or the kernel's comparison; each contract: ONE APPLICATION. slices.Sort at numbers: at a row of one's own, nil or not. -/
import Derived.Ground.NamesProg
import Derived.Shelf.Sort.Plain
import Derived.Test.YtijkdpdmclkmlaaGreatDoorProg
import Derived.Test.YtijkdpdmclkmlaaGreatDoorJ20
import Derived.Test.YtijkdpdmclkmlaaGreatDoorJ9
import Derived.Test.YtijkdpdmclkmlaaGreatDoorJ16
import Derived.Test.YtijkdpdmclkmlaaGreatDoorJ23
import Derived.Sort.OwnSortedInts
import Derived.BigQuiet
set_option linter.unusedSimpArgs false
set_option linter.unusedVariables false
set_option maxRecDepth 100000
set_option maxHeartbeats 16000000
namespace Go.Proofs
open Go.Shelf
def Tryz.lays189_ren : Go.Shelf.Ren := ⟨fun | 189 => 182 | 125 => 236 | 257 => 235 | 128 => 264 | 129 => 265 | 294 => 255 | 295 => 256 | 296 => 257 | 297 => 258 | 298 => 259 | 299 => 260 | 216 => 261 | 300 => 262 | 301 => 263 | 328 => 287 | 329 => 288 | 330 => 289 | 331 => 290 | 332 => 291 | 215 => 292 | 343 => 303 | n => n, fun | 28 => 28 | 3 => 3 | 46 => 128 | 0 => 0 | 51 => 168 | 53 => 70 | 4 => 4 | 183 => 189 | 182 => 188 | 131 => 194 | 5 => 5 | 9 => 9 | 218 => 213 | 222 => 217 | 228 => 224 | 229 => 37 | n => n, fun | n => n⟩
theorem Tryz.lays189 : Go.Proofs.Lays.n189 Tryz.prog Tryz.lays189_ren := {
  mixed := by kernel_rfl
  f125 := Tryz.func236.trans (congrArg some (by kernel_rfl))
  f128 := Tryz.func264.trans (congrArg some (by kernel_rfl))
  f129 := Tryz.func265.trans (congrArg some (by kernel_rfl))
  f189 := Tryz.func182.trans (congrArg some (by kernel_rfl))
  f215 := Tryz.func292.trans (congrArg some (by kernel_rfl))
  f216 := Tryz.func261.trans (congrArg some (by kernel_rfl))
  f257 := Tryz.func235.trans (congrArg some (by kernel_rfl))
  f294 := Tryz.func255.trans (congrArg some (by kernel_rfl))
  f295 := Tryz.func256.trans (congrArg some (by kernel_rfl))
  f296 := Tryz.func257.trans (congrArg some (by kernel_rfl))
  f297 := Tryz.func258.trans (congrArg some (by kernel_rfl))
  f298 := Tryz.func259.trans (congrArg some (by kernel_rfl))
  f299 := Tryz.func260.trans (congrArg some (by kernel_rfl))
  f300 := Tryz.func262.trans (congrArg some (by kernel_rfl))
  f301 := Tryz.func263.trans (congrArg some (by kernel_rfl))
  f328 := Tryz.func287.trans (congrArg some (by kernel_rfl))
  f329 := Tryz.func288.trans (congrArg some (by kernel_rfl))
  f330 := Tryz.func289.trans (congrArg some (by kernel_rfl))
  f331 := Tryz.func290.trans (congrArg some (by kernel_rfl))
  f332 := Tryz.func291.trans (congrArg some (by kernel_rfl))
  f343 := Tryz.func303.trans (congrArg some (by kernel_rfl))
  t0 := Tryz.underlying0
  a0 := Tryz.isAgg0
  z0 := Tryz.sizeOf0
  v0 := Tryz.zeroValue0
  t3 := Tryz.underlying3
  a3 := Tryz.isAgg3
  z3 := Tryz.sizeOf3
  v3 := Tryz.zeroValue3
  t4 := Tryz.underlying4
  a4 := Tryz.isAgg4
  z4 := Tryz.sizeOf4
  v4 := Tryz.zeroValue4
  t5 := Tryz.underlying5
  a5 := Tryz.isAgg5
  z5 := Tryz.sizeOf5
  v5 := Tryz.zeroValue5
  t9 := Tryz.underlying9
  a9 := Tryz.isAgg9
  z9 := Tryz.sizeOf9
  v9 := Tryz.zeroValue9
  t28 := Tryz.underlying28
  a28 := Tryz.isAgg28
  z28 := Tryz.sizeOf28
  v28 := Tryz.zeroValue28
  t46 := Tryz.underlying128
  a46 := Tryz.isAgg128
  z46 := Tryz.sizeOf128
  v46 := Tryz.zeroValue128
  t51 := Tryz.underlying168
  a51 := Tryz.isAgg168
  z51 := Tryz.sizeOf168
  v51 := Tryz.zeroValue168
  t53 := Tryz.underlying70
  a53 := Tryz.isAgg70
  z53 := Tryz.sizeOf70
  v53 := Tryz.zeroValue70
  t131 := Tryz.underlying194
  a131 := Tryz.isAgg194
  z131 := Tryz.sizeOf194
  v131 := Tryz.zeroValue194
  t182 := Tryz.underlying188
  a182 := Tryz.isAgg188
  z182 := Tryz.sizeOf188
  v182 := Tryz.zeroValue188
  t183 := Tryz.underlying189
  a183 := Tryz.isAgg189
  z183 := Tryz.sizeOf189
  v183 := Tryz.zeroValue189
  t218 := Tryz.underlying213
  a218 := Tryz.isAgg213
  z218 := Tryz.sizeOf213
  v218 := Tryz.zeroValue213
  t222 := Tryz.underlying217
  a222 := Tryz.isAgg217
  z222 := Tryz.sizeOf217
  v222 := Tryz.zeroValue217
  t228 := Tryz.underlying224
  a228 := Tryz.isAgg224
  z228 := Tryz.sizeOf224
  v228 := Tryz.zeroValue224
  t229 := Tryz.underlying37
  a229 := Tryz.isAgg37
  z229 := Tryz.sizeOf37
  v229 := Tryz.zeroValue37 }
def Tryz.lays190_ren : Go.Shelf.Ren := ⟨fun | 190 => 199 | 125 => 236 | 258 => 246 | 128 => 264 | 129 => 265 | 302 => 270 | 303 => 271 | 304 => 272 | 305 => 273 | 306 => 274 | 307 => 275 | 308 => 276 | 309 => 277 | 310 => 278 | 333 => 296 | 329 => 288 | 330 => 289 | 334 => 297 | 335 => 298 | 336 => 299 | 344 => 308 | n => n, fun | 31 => 24 | 9 => 9 | 3 => 3 | 46 => 128 | 0 => 0 | 51 => 168 | 53 => 70 | 4 => 4 | 183 => 189 | 182 => 188 | 131 => 194 | 5 => 5 | 218 => 213 | 222 => 217 | 228 => 224 | 229 => 37 | n => n, fun | n => n⟩
theorem Tryz.lays190 : Go.Proofs.Lays.n190 Tryz.prog Tryz.lays190_ren := {
  mixed := by kernel_rfl
  f125 := Tryz.func236.trans (congrArg some (by kernel_rfl))
  f128 := Tryz.func264.trans (congrArg some (by kernel_rfl))
  f129 := Tryz.func265.trans (congrArg some (by kernel_rfl))
  f190 := Tryz.func199.trans (congrArg some (by kernel_rfl))
  f258 := Tryz.func246.trans (congrArg some (by kernel_rfl))
  f302 := Tryz.func270.trans (congrArg some (by kernel_rfl))
  f303 := Tryz.func271.trans (congrArg some (by kernel_rfl))
  f304 := Tryz.func272.trans (congrArg some (by kernel_rfl))
  f305 := Tryz.func273.trans (congrArg some (by kernel_rfl))
  f306 := Tryz.func274.trans (congrArg some (by kernel_rfl))
  f307 := Tryz.func275.trans (congrArg some (by kernel_rfl))
  f308 := Tryz.func276.trans (congrArg some (by kernel_rfl))
  f309 := Tryz.func277.trans (congrArg some (by kernel_rfl))
  f310 := Tryz.func278.trans (congrArg some (by kernel_rfl))
  f329 := Tryz.func288.trans (congrArg some (by kernel_rfl))
  f330 := Tryz.func289.trans (congrArg some (by kernel_rfl))
  f333 := Tryz.func296.trans (congrArg some (by kernel_rfl))
  f334 := Tryz.func297.trans (congrArg some (by kernel_rfl))
  f335 := Tryz.func298.trans (congrArg some (by kernel_rfl))
  f336 := Tryz.func299.trans (congrArg some (by kernel_rfl))
  f344 := Tryz.func308.trans (congrArg some (by kernel_rfl))
  t0 := Tryz.underlying0
  a0 := Tryz.isAgg0
  z0 := Tryz.sizeOf0
  v0 := Tryz.zeroValue0
  t3 := Tryz.underlying3
  a3 := Tryz.isAgg3
  z3 := Tryz.sizeOf3
  v3 := Tryz.zeroValue3
  t4 := Tryz.underlying4
  a4 := Tryz.isAgg4
  z4 := Tryz.sizeOf4
  v4 := Tryz.zeroValue4
  t5 := Tryz.underlying5
  a5 := Tryz.isAgg5
  z5 := Tryz.sizeOf5
  v5 := Tryz.zeroValue5
  t9 := Tryz.underlying9
  a9 := Tryz.isAgg9
  z9 := Tryz.sizeOf9
  v9 := Tryz.zeroValue9
  t31 := Tryz.underlying24
  a31 := Tryz.isAgg24
  z31 := Tryz.sizeOf24
  v31 := Tryz.zeroValue24
  t46 := Tryz.underlying128
  a46 := Tryz.isAgg128
  z46 := Tryz.sizeOf128
  v46 := Tryz.zeroValue128
  t51 := Tryz.underlying168
  a51 := Tryz.isAgg168
  z51 := Tryz.sizeOf168
  v51 := Tryz.zeroValue168
  t53 := Tryz.underlying70
  a53 := Tryz.isAgg70
  z53 := Tryz.sizeOf70
  v53 := Tryz.zeroValue70
  t131 := Tryz.underlying194
  a131 := Tryz.isAgg194
  z131 := Tryz.sizeOf194
  v131 := Tryz.zeroValue194
  t182 := Tryz.underlying188
  a182 := Tryz.isAgg188
  z182 := Tryz.sizeOf188
  v182 := Tryz.zeroValue188
  t183 := Tryz.underlying189
  a183 := Tryz.isAgg189
  z183 := Tryz.sizeOf189
  v183 := Tryz.zeroValue189
  t218 := Tryz.underlying213
  a218 := Tryz.isAgg213
  z218 := Tryz.sizeOf213
  v218 := Tryz.zeroValue213
  t222 := Tryz.underlying217
  a222 := Tryz.isAgg217
  z222 := Tryz.sizeOf217
  v222 := Tryz.zeroValue217
  t228 := Tryz.underlying224
  a228 := Tryz.isAgg224
  z228 := Tryz.sizeOf224
  v228 := Tryz.zeroValue224
  t229 := Tryz.underlying37
  a229 := Tryz.isAgg37
  z229 := Tryz.sizeOf37
  v229 := Tryz.zeroValue37 }
end Go.Proofs

namespace Go.Proofs.YtijkdpdmclkmlaaGreatDoor
open Go.RowKit
open Go.Sort (grow)

theorem sortIG_any (g c : Nat) (zs : List Int) (B : Nat) (w : World) (hn : zs.length ≤ 16777216) (h : w.ownsRow B 3 1 (.slice (some ⟨g, 0, none⟩) zs.length c) zs.length (ints zs)) :
    Calls Tryz.prog 182 #[.slice (some ⟨g, 0, none⟩) zs.length c] w fun e w' => e = .returned (.tuple #[]) ∧
      w'.ownsRow B 3 1 (.slice (some ⟨g, 0, none⟩) zs.length c) zs.length (ints (sortI zs)) ∧ w.grownBy w' (some g) := by
  rcases h.2 with ⟨e, _⟩ | ⟨g', cap, cur, e, hb, hg, h1, h2, h3, h4⟩
  · cases e
  cases e
  have h4' : cur.toList.take zs.length = zs.map (Value.int .i64) := by simpa using h4
  refine (Any.slices_Sort_int Tryz.lays189 g 0 c zs w (holds_of_blockI hg h4') (Array.getElem?_eq_some_iff.1 hg).1 (by omega)).mono ?_
  rintro e w' ⟨rfl, n, os, rfl⟩
  refine ⟨rfl, ?_, grownBy_sortedI _⟩
  exact ownsRow_sortedI (by simp [List.length_mergeSort]) hb hg h1 h2 h3

theorem insIG_none (w : World) : Calls Tryz.prog 255 #[.slice none 0 0, .int .i64 0, .int .i64 0] w fun e w' => e = .returned (.tuple #[]) ∧ w = w' := by
  go_enter Tryz.func255, Tryz.ntmps255
  go_wp2_with fail
  go_loop [6] (fun i => i = .int .i64 1) (fun _ => 0)
  case atStart => exact rfl
  obtain rfl := hrel
  go_wp2_with fail
  go_end0
  exact ⟨rfl, rfl⟩

theorem pdqIG_none (n : Int) (w : World) : Calls Tryz.prog 235 #[.slice none 0 0, .int .i64 0, .int .i64 0, .int .i64 n] w fun e w' => e = .returned (.tuple #[]) ∧ w = w' := by
  have H := Lib.hid (fun w => insIG_none w)
  go_enter Tryz.func235, Tryz.ntmps235
  go_wp2_with fail
  go_loop [1, 2] (fun a b => a = .int .i64 0 ∧ b = .int .i64 0) (fun _ _ => 0)
  case atStart => exact ⟨rfl, rfl⟩
  obtain ⟨rfl, rfl⟩ := hrel
  go_wp2_with ((with_reducible refine (H.out _).mono ?_); rintro e w1 ⟨rfl, rfl⟩)
  exact bodyPost_ret (v := .tuple #[]) (by simp [results, Tryz.results235, go_sem]) rfl ⟨rfl, rfl⟩

theorem bitsLenG_zero (w : World) : Calls Tryz.prog 236 #[.int .u64 0] w fun e w' => (∃ n, e = .returned (.int .i64 n)) ∧ w = w' := by
  go_enter Tryz.func236, Tryz.ntmps236
  go_wp2
  go_ret
  exact ⟨⟨_, rfl⟩, rfl⟩

theorem sortIG_none (w : World) : Calls Tryz.prog 182 #[.slice none 0 0] w fun e w' => e = .returned (.tuple #[]) ∧ w = w' := by
  have H := Lib.hid (fun n w => pdqIG_none n w)
  have H2 := Lib.hid (fun w => bitsLenG_zero w)
  go_enter Tryz.func182, Tryz.ntmps182
  go_wp2_with (first | (go_at_call 236; refine (H2.out _).mono ?_; rintro e w1 ⟨⟨n, rfl⟩, rfl⟩) | (go_at_call 235; refine (H.out _ _).mono ?_; rintro e w1 ⟨rfl, rfl⟩))
  go_end0
  exact ⟨rfl, rfl⟩

/-- At any row of one's own. -/
theorem sortIG_row (v : Value) (zs : List Int) (B : Nat) (w : World) (hn : zs.length ≤ 16777216) (h : w.ownsRow B 3 1 v zs.length (ints zs)) :
    Calls Tryz.prog 182 #[v] w fun e w' => e = .returned (.tuple #[]) ∧ w'.ownsRow B 3 1 v zs.length (ints (sortI zs)) ∧ Kept (fun q => v.ownBlock = some q) w w' := by
  rcases h.2 with ⟨rfl, h0⟩ | ⟨g, c, cur, rfl, _⟩
  · refine (sortIG_none w).mono ?_
    rintro e w' ⟨rfl, rfl⟩
    have hz : zs = [] := List.length_eq_zero_iff.1 h0
    subst hz
    exact ⟨rfl, by rw [show sortI [] = [] from by simp [sortI]]; exact h, Kept.refl _ _⟩
  refine (sortIG_any g c zs B w hn h).mono ?_
  rintro e w' ⟨rfl, ho, hg⟩
  exact ⟨rfl, ho, kept_of_grown hg⟩

theorem isOrder_any (n : Int) (A : Option Addr) (c : Nat) (l : List Int) (w : World) (hn : l.length ≤ 1000000) (hA : Cells w A (ints l)) :
    Calls Tryz.prog 99 #[.int .i64 n, .slice A l.length c] w fun e w' => e = .returned (.bool (orderB n l)) ∧ Below w.heap.size w w' := by
  have HC := Lib.hid (cloneIG_any A c l w (by omega) hA)
  have HPT := Lib.hid (show orderB n l = (allR l.length (fun i => (sortI l).getD i 0 == (i : Int)) && ((l.length : Int) == n)) from by unfold orderB; rw [sortI_len])
  have HSL := Lib.hid (sortI_len l)
  clear hA
  go_enter Tryz.func99, Tryz.ntmps99
  go_wp2_with fail
  (with_reducible refine HC.out.mono ?_)
  rintro e w1 ⟨u, rfl, hu, hb1⟩
  have HS := Lib.hid (sortIG_row u l w.heap.size w1 (by omega) hu)
  have hlt := hu.lt
  have HB1 := Lib.hid hb1
  have HLT := Lib.hid hlt
  clear hu hb1 hlt
  go_wp2_with fail
  (with_reducible refine HS.out.mono ?_)
  rintro e w2 ⟨rfl, ho2, hk2⟩
  have HB2 := Lib.hid (HB1.out.trans (hk2.below (fun q hq => (HLT.out q hq).1) HB1.out.size))
  obtain ⟨AS, cS, rfl, ho2⟩ := owns_form ho2
  have HCS := Lib.hid (Cells.of_owns ho2)
  clear ho2 hk2
  go_wp2_with fail
  go_loop [14] (fun i => ∃ k : Nat, k ≤ l.length ∧ i = .int .i64 k ∧ ∀ j, j < k → ((sortI l).getD j 0 == (j : Int)) = true) (fun i => l.length - (intOf i).toNat)
  case atStart => exact ⟨0, Nat.zero_le _, rfl, fun j hj => by omega⟩
  obtain ⟨k, hk, rfl, hall⟩ := hrel
  have HALL := Lib.hid hall
  clear hall
  by_cases hlt : k < l.length
  · obtain ⟨b, o, rfl, hc⟩ := HCS.out.int (show k < (sortI l).length by rw [HSL.out]; exact hlt)
    have k0 := hc k (by rw [HSL.out]; exact hlt)
    have HF := Lib.hid (show ((sortI l).getD k 0 == (k : Int)) = false → orderB n l = false from fun h => by rw [HPT.out, allR_false hlt h]; rfl)
    have HN := Lib.hid (show ((sortI l).getD k 0 == (k : Int)) = true → ∀ j, j < k + 1 → ((sortI l).getD j 0 == (j : Int)) = true from fun h => all_next HALL.out h)
    clear hc
    generalize (sortI l).getD k 0 = y at *
    cases hy : (y == (k : Int))
    · have HFF := Lib.hid (HF.out hy)
      have hy2 : (y != (k : Int)) = true := by rw [bne, hy]; rfl
      go_wp2_with fail
      go_ret
      exact ⟨by rw [HFF.out]; rfl, HB2.out⟩
    have HNN := Lib.hid (HN.out hy)
    have hy2 : (y != (k : Int)) = false := by rw [bne, hy]; rfl
    go_wp2_with fail
    go_round
    case rel => exact ⟨k + 1, by omega, by go_num, HNN.out⟩
    case measure => simp [intOf]; omega
  obtain rfl : k = l.length := by omega
  have HE := Lib.hid (show orderB n l = ((l.length : Int) == n) from by rw [HPT.out, allR_true HALL.out, Bool.true_and])
  go_wp2_with fail
  go_ret
  exact ⟨by rw [HE.out]; rfl, HB2.out⟩

end Go.Proofs.YtijkdpdmclkmlaaGreatDoor
