/- Pairs of numbers are keys of this program's maps. -/
import Derived.Test.YtojdobpmknadhaaProg
import Derived.Test.YtojdobpmknadhaaPMap
set_option linter.unusedVariables false
namespace Go.Proofs.Ytojdobpmknadhaa
open Go.RowKit Go.ChangeMaps Go.MapKept
open Go.Maps (Keyed)

theorem laidOutM : laidOutB Try.prog = true := by kernel_rfl
theorem wf_small {a : Int} (h : InS a) : (Lit.int .i64 a).wf = true := WalkArith.wf_i64 (by unfold InS at h; omega)

theorem keyLits_int (m : Nat) {a : Int} (h : InS a) : Try.prog.keyLits (m + 1) 3 [.int .i64 a] = some [.int .i64 a] := by
  simp [Program.keyLits, Try.underlying3, wf_small h]

set_option maxRecDepth 100000 in
theorem pairKey : PairKey Try.prog 64 := by
  refine ⟨Keyed.of_law (deep_law_laid laidOutM (m := 3) (by decide) (by decide +kernel) (by kernel_rfl) (by kernel_rfl)), fun a b ha hb => ?_⟩
  have hc : Try.prog.cellsOf 64 = 2 := by kernel_rfl
  have hc1 : Try.prog.cellsOf 3 = 1 := by kernel_rfl
  have hk : Try.prog.keyType 64 = true := by kernel_rfl
  have hpos : 0 < Try.prog.types.size := by decide +kernel
  obtain ⟨m, hm⟩ : ∃ m, Try.prog.types.size = m + 1 := ⟨Try.prog.types.size - 1, by omega⟩
  have hl : Try.prog.keyLits (Try.prog.types.size + 1) 64 [.int .i64 a, .int .i64 b] = some [.int .i64 a, .int .i64 b] := by
    rw [hm]
    simp [Program.keyLits, Try.underlying64, Try.underlying3, hc, hc1, wf_small ha, wf_small hb, List.range_succ]
  refine ⟨.string (keyBytes [.int .i64 a, .int .i64 b]), ?_⟩
  unfold keyOf
  simp only [Try.underlying64, hk, KV, Value.formed, hc]
  rw [show (Value.agg #[Value.int .i64 a, Value.int .i64 b]).cells.toList = [.int .i64 a, .int .i64 b] from rfl, hl]
  rfl

end Go.Proofs.Ytojdobpmknadhaa
