/- DERIVED: THE SHELF's CONTRACTS AT THIS DUMP, IN PLAIN WORDS (tools/lay-plain.mjs out of 'YtijkdpdmclkmlaaGreatDoorShelfNA.lean', which tools/lay-shelf.mjs wrote): THE SAME DECLARATIONS UNDER THE SAME NAMES: 'import', 'namespace', 'open', 'def', 'theorem' AND NOTHING ELSE: no command of the shelf's: FOR A HAND-IN. Each laying: the table of numbers ('.._ren') and one theorem, a field a fact of the dump's own or the kernel's comparison; each contract: ONE APPLICATION. slices.Sort at numbers: at a row of one's own, nil or not. Compares: slices.Equal at strings and inner names; two bigraphs of which the second has no nodes. -/
import Derived.Ground.NamesProg
import Derived.Shelf.Sort.Plain
import Derived.Test.YtijkdpdmclkmlaaGreatDoorProg
import Derived.Test.YtijkdpdmclkmlaaGreatDoorJ8
import Derived.Test.YtijkdpdmclkmlaaGreatDoorJ9
import Derived.Test.YtijkdpdmclkmlaaGreatDoorJ17
import Derived.Test.YtijkdpdmclkmlaaGreatDoorJ24
import Derived.Sort.OwnSortedInts
import Derived.BigQuiet
import Derived.Test.YtijkdpdmclkmlaaGreatDoorJ0
import Derived.Test.YtijkdpdmclkmlaaGreatDoorJ5
import Derived.Deep.QuietTactic
import Derived.Test.YtijkdpdmclkmlaaGreatDoorJ1
set_option linter.unusedSimpArgs false
set_option linter.unusedVariables false
set_option maxRecDepth 100000
set_option maxHeartbeats 16000000
namespace Go.Proofs
open Go.Shelf
def Tryz.lays190_ren : Go.Shelf.Ren := ⟨fun | 190 => 199 | 125 => 236 | 258 => 246 | 128 => 264 | 129 => 265 | 302 => 270 | 303 => 271 | 304 => 272 | 305 => 273 | 306 => 274 | 307 => 275 | 308 => 276 | 309 => 277 | 310 => 278 | 333 => 296 | 329 => 288 | 330 => 289 | 334 => 297 | 335 => 298 | 336 => 299 | 344 => 308 | n => n, fun | 31 => 24 | 9 => 9 | 3 => 3 | 46 => 128 | 0 => 0 | 51 => 168 | 53 => 70 | 4 => 4 | 183 => 189 | 182 => 188 | 131 => 194 | 5 => 5 | 218 => 213 | 222 => 217 | 228 => 224 | 229 => 37 | n => n, fun | n => n⟩
theorem Tryz.lays190 : Go.Proofs.Lays.n190 Tryz.prog Tryz.lays190_ren := {
  mixed := by kernel_rfl
  f125 := Tryz.func236.trans (congrArg some (by kernel_rfl))
  f128 := Tryz.func264.trans (congrArg some (by kernel_rfl))
  f129 := Tryz.func265.trans (congrArg some (by kernel_rfl))
  f190 := Tryz.func199.trans (congrArg some (by kernel_rfl))
  f258 := Tryz.func246.trans (congrArg some (by kernel_rfl))
  f302 := Tryz.func270.trans (congrArg some (by kernel_rfl))
  f303 := Tryz.func271.trans (congrArg some (by kernel_rfl))
  f304 := Tryz.func272.trans (congrArg some (by kernel_rfl))
  f305 := Tryz.func273.trans (congrArg some (by kernel_rfl))
  f306 := Tryz.func274.trans (congrArg some (by kernel_rfl))
  f307 := Tryz.func275.trans (congrArg some (by kernel_rfl))
  f308 := Tryz.func276.trans (congrArg some (by kernel_rfl))
  f309 := Tryz.func277.trans (congrArg some (by kernel_rfl))
  f310 := Tryz.func278.trans (congrArg some (by kernel_rfl))
  f329 := Tryz.func288.trans (congrArg some (by kernel_rfl))
  f330 := Tryz.func289.trans (congrArg some (by kernel_rfl))
  f333 := Tryz.func296.trans (congrArg some (by kernel_rfl))
  f334 := Tryz.func297.trans (congrArg some (by kernel_rfl))
  f335 := Tryz.func298.trans (congrArg some (by kernel_rfl))
  f336 := Tryz.func299.trans (congrArg some (by kernel_rfl))
  f344 := Tryz.func308.trans (congrArg some (by kernel_rfl))
  t0 := Tryz.underlying0
  a0 := Tryz.isAgg0
  z0 := Tryz.sizeOf0
  v0 := Tryz.zeroValue0
  t3 := Tryz.underlying3
  a3 := Tryz.isAgg3
  z3 := Tryz.sizeOf3
  v3 := Tryz.zeroValue3
  t4 := Tryz.underlying4
  a4 := Tryz.isAgg4
  z4 := Tryz.sizeOf4
  v4 := Tryz.zeroValue4
  t5 := Tryz.underlying5
  a5 := Tryz.isAgg5
  z5 := Tryz.sizeOf5
  v5 := Tryz.zeroValue5
  t9 := Tryz.underlying9
  a9 := Tryz.isAgg9
  z9 := Tryz.sizeOf9
  v9 := Tryz.zeroValue9
  t31 := Tryz.underlying24
  a31 := Tryz.isAgg24
  z31 := Tryz.sizeOf24
  v31 := Tryz.zeroValue24
  t46 := Tryz.underlying128
  a46 := Tryz.isAgg128
  z46 := Tryz.sizeOf128
  v46 := Tryz.zeroValue128
  t51 := Tryz.underlying168
  a51 := Tryz.isAgg168
  z51 := Tryz.sizeOf168
  v51 := Tryz.zeroValue168
  t53 := Tryz.underlying70
  a53 := Tryz.isAgg70
  z53 := Tryz.sizeOf70
  v53 := Tryz.zeroValue70
  t131 := Tryz.underlying194
  a131 := Tryz.isAgg194
  z131 := Tryz.sizeOf194
  v131 := Tryz.zeroValue194
  t182 := Tryz.underlying188
  a182 := Tryz.isAgg188
  z182 := Tryz.sizeOf188
  v182 := Tryz.zeroValue188
  t183 := Tryz.underlying189
  a183 := Tryz.isAgg189
  z183 := Tryz.sizeOf189
  v183 := Tryz.zeroValue189
  t218 := Tryz.underlying213
  a218 := Tryz.isAgg213
  z218 := Tryz.sizeOf213
  v218 := Tryz.zeroValue213
  t222 := Tryz.underlying217
  a222 := Tryz.isAgg217
  z222 := Tryz.sizeOf217
  v222 := Tryz.zeroValue217
  t228 := Tryz.underlying224
  a228 := Tryz.isAgg224
  z228 := Tryz.sizeOf224
  v228 := Tryz.zeroValue224
  t229 := Tryz.underlying37
  a229 := Tryz.isAgg37
  z229 := Tryz.sizeOf37
  v229 := Tryz.zeroValue37 }
end Go.Proofs

namespace Go.Proofs.YtijkdpdmclkmlaaGreatDoor
open Go.RowKit
open Go.Sort (grow)

theorem bitsLenG_zero (w : World) : Calls Tryz.prog 236 #[.int .u64 0] w fun e w' => (∃ n, e = .returned (.int .i64 n)) ∧ w = w' := by
  go_enter Tryz.func236, Tryz.ntmps236
  go_wp2
  go_ret
  exact ⟨⟨_, rfl⟩, rfl⟩

end Go.Proofs.YtijkdpdmclkmlaaGreatDoor

namespace Go.Proofs.YtijkdpdmclkmlaaGreatDoor
open Go.RowKit
theorem eqWiG (a c : ByteArray) (b d : Int) (w : World) : (Op.equalIn 10000 90 (.agg #[.string a, .int .i64 b]) (.agg #[.string c, .int .i64 d])).run Tryz.prog w = .ok (a.toList == c.toList && b == d) w := by
  have u3 := Tryz.underlying3
  have a3 := Tryz.isAgg3
  have z3 := Tryz.sizeOf3
  have u9 := Tryz.underlying9
  have a9 := Tryz.isAgg9
  have z9 := Tryz.sizeOf9
  rw [show (10000 : Nat) = 9999 + 1 from rfl, Op.equalIn]
  simp only [Sem.run_bind, run_underlying Tryz.underlying90, Result.andThen_ok]
  have hs : Tryz.prog.stoodInHeld 90 = false := by kernel_rfl
  simp only [List.forIn_toArray, List.forIn_cons, List.forIn_nil]
  go_simp
  by_cases h1 : a.toList = c.toList <;> by_cases h2 : b = d <;> simp [h1, h2]
theorem decS_no {xs ys : List ByteArray} {k : Nat} (hk : k < xs.length) (h : xs.getD k default ≠ ys.getD k default) : decide (xs = ys) = false := decide_eq_false fun e => h (by rw [e])
theorem decS_yes {xs ys : List ByteArray} (hl : xs.length = ys.length) (h : ∀ j, j < xs.length → xs.getD j default = ys.getD j default) : decide (xs = ys) = true := decide_eq_true (by
  apply List.ext_getElem hl
  intro i h1 h2
  have := h i h1
  simpa [List.getD, h1, h2] using this)
theorem equalSG_any (A B : Option Addr) (c d : Nat) (xs ys : List ByteArray) (w : World) (hn : xs.length ≤ 16777216) (hm : ys.length ≤ 16777216) (hA : Cells w A (strs xs)) (hB : Cells w B (strs ys)) :
    Calls Tryz.prog 148 #[.slice A xs.length c, .slice B ys.length d] w fun e w' => e = .returned (.bool (decide (xs = ys))) ∧ Below w.heap.size w w' := by
  by_cases hl : xs.length = ys.length
  · have hl' : ((xs.length : Int) == (ys.length : Int)) = true := by simp [hl]
    have hl'' : ((xs.length : Int) != (ys.length : Int)) = false := by simp [hl]
    have HL := Lib.hid hl
    have HA := Lib.hid (show ∀ W, Below w.heap.size w W → Cells W A (strs xs) from fun W hb => hA.below hb)
    have HB := Lib.hid (show ∀ W, Below w.heap.size w W → Cells W B (strs ys) from fun W hb => hB.below hb)
    clear hl hA hB
    go_enter Tryz.func148, Tryz.ntmps148
    go_wp2_with fail
    go_loopw [13] (fun i wr => ∃ k : Nat, k ≤ xs.length ∧ i = .int .i64 k ∧ (∀ j, j < k → xs.getD j default = ys.getD j default) ∧ Below w.heap.size w wr) (fun i _ => xs.length - (intOf i).toNat)
    case atStart => exact ⟨0, Nat.zero_le _, rfl, fun j hj => by omega, Below.refl _ _⟩
    obtain ⟨k, hk, rfl, hall, hbel⟩ := hrel
    have HALL := Lib.hid hall
    have HZ := Lib.hid hbel
    clear hall
    by_cases hlt : k < xs.length
    · have hlt2 : k < ys.length := by have := HL.out; omega
      obtain ⟨b, o, rfl, hc⟩ := (HA.out wr hbel).str hlt
      obtain ⟨b', o', rfl, hc'⟩ := (HB.out wr hbel).str hlt2
      have c1 := hc k hlt
      have c2 := hc' k hlt2
      clear hc hc' hbel
      have HN := Lib.hid (fun h : xs.getD k default = ys.getD k default => show ∀ j, j < k + 1 → xs.getD j default = ys.getD j default from fun j hj => by
        rcases Nat.lt_succ_iff_lt_or_eq.1 hj with h' | h'
        · exact HALL.out j h'
        rw [h']; exact h)
      have HF := Lib.hid (fun h : xs.getD k default ≠ ys.getD k default => decS_no hlt h)
      obtain ⟨x, hx⟩ : ∃ x, x = xs.getD k default := ⟨_, rfl⟩
      obtain ⟨y, hy⟩ : ∃ y, y = ys.getD k default := ⟨_, rfl⟩
      rw [← hx] at c1 HN HF
      rw [← hy] at c2 HN HF
      clear hx hy
      have b0 : (0 : Int) ≤ (k : Int) := by omega
      have b1 : (k : Int) < (xs.length : Int) := by omega
      have b2 : (k : Int) < (ys.length : Int) := by omega
      by_cases he : x = y
      · have HNN := Lib.hid (HN.out he)
        subst he
        have hee := str_eq x
        go_wp2_with fail
        go_quiet (fail)
        go_wp2_with fail
        go_roundw
        case rel => exact ⟨k + 1, by omega, by go_num, HNN.out, below_drewN' HZ.out _⟩
        case measure => simp [intOf]; omega
      have HFF := Lib.hid (HF.out he)
      have hee := str_ne he
      clear he
      go_wp2_with fail
      go_quiet (fail)
      go_wp2_with fail
      go_ret
      exact ⟨by rw [HFF.out]; rfl, below_drewN' HZ.out _⟩
    obtain rfl : k = xs.length := by omega
    have HE := Lib.hid (decS_yes HL.out HALL.out)
    clear hbel
    go_wp2_with fail
    go_ret
    exact ⟨by rw [HE.out]; rfl, HZ.out⟩
  have hl' : ((xs.length : Int) == (ys.length : Int)) = false := by rw [beq_eq_false_iff_ne]; omega
  have hl'' : ((xs.length : Int) != (ys.length : Int)) = true := by rw [bne_iff_ne]; omega
  have HE := Lib.hid (show decide (xs = ys) = false from decide_eq_false fun e => hl (by rw [e]))
  clear hl hA hB
  go_enter Tryz.func148, Tryz.ntmps148
  go_wp2_with fail
  go_ret
  exact ⟨by rw [HE.out]; rfl, Below.refl _ _⟩

end Go.Proofs.YtijkdpdmclkmlaaGreatDoor
