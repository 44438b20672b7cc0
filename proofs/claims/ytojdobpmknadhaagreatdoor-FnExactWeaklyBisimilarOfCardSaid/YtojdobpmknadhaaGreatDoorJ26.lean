/- What a valid labelled system is, said in plain words. No program is in sight. DERIVED: THE SHELF's CONTRACTS AT THIS DUMP, IN PLAIN WORDS (tools/lay-plain.mjs out of 'YtojdobpmknadhaaGreatDoorShelfSA.lean', which tools/lay-shelf.mjs wrote): THE SAME DECLARATIONS UNDER THE SAME NAMES: 'import', 'namespace', 'open', 'def', 'theorem' AND NOTHING ELSE: no command of the shelf's: FOR A HAND-IN. Each laying: the table of numbers ('.._ren') and one theorem, a field a fact of the dump's own or the kernel's comparison; each contract: ONE APPLICATION. -/
import Derived.Test.YtojdobpmknadhaaGreatDoorJ25
import Derived.Test.YtojdobpmknadhaaGreatDoorJ16
import Derived.Test.YtojdobpmknadhaaGreatDoorJ9
import Derived.Ground.NamesProg
import Derived.Ground.SlsfProg
import Derived.Shelf.SlGeneric
import Derived.Shelf.Sort.Plain
import Derived.Shelf.SlSortCmp.NoneTotal
import Derived.Test.YtojdobpmknadhaaGreatDoorProg
set_option linter.unusedVariables false
namespace Go.Proofs.YtojdobpmknadhaaGreatDoor

theorem lt3_code {t u : I3} (h : lt3 t u = true) (ht : 0 ≤ t.2.1 ∧ t.2.1 < 8 ∧ 0 ≤ t.2.2 ∧ t.2.2 < 40) (hu : 0 ≤ u.2.1 ∧ u.2.1 < 8 ∧ 0 ≤ u.2.2 ∧ u.2.2 < 40) : t.1 * 320 + t.2.1 * 40 + t.2.2 < u.1 * 320 + u.2.1 * 40 + u.2.2 := by
  obtain ⟨x, y, z⟩ := t
  obtain ⟨x', y', z'⟩ := u
  dsimp only at *
  by_cases hx : x = x'
  · subst hx
    by_cases hy : y = y'
    · subst hy
      by_cases hz : z = z'
      · subst hz
        rw [lt3_self] at h
        cases h
      · rw [lt3_ne3 hz] at h
        simp at h
        omega
    · rw [lt3_ne2 hy] at h
      simp at h
      omega
  · rw [lt3_ne1 hx] at h
    simp at h
    omega
theorem goodF_all {n k : Nat} {p : Nat → Bool} (h : allR n p = true) (hk : k < n) : p k = true := by
  unfold allR at h
  rw [List.all_eq_true] at h
  exact h k (List.mem_range.2 hk)
theorem goodF_size {l : Lab} (h : goodLab l = true) : 1 ≤ l.shows.length ∧ l.shows.length ≤ 40 := by
  unfold goodLab at h
  simp only [Bool.and_eq_true] at h
  have := inB_true h.1
  omega
theorem goodF_in {l : Lab} (h : goodLab l = true) {i : Nat} (hi : i < l.steps.length) : 0 ≤ (l.steps[i]).1 ∧ (l.steps[i]).1 < l.shows.length ∧ 0 ≤ (l.steps[i]).2.1 ∧ (l.steps[i]).2.1 < 8 ∧ 0 ≤ (l.steps[i]).2.2 ∧ (l.steps[i]).2.2 < l.shows.length := by
  unfold goodLab goodSteps at h
  simp only [Bool.and_eq_true] at h
  have h1 := goodF_all h.2.1 hi
  unfold stepAt stepIn at h1
  have e : l.steps.getD i (0, 0, 0) = l.steps[i] := by simp [List.getD, hi]
  rw [e] at h1
  simp only [Bool.and_eq_true] at h1
  have a := inB_true h1.1.1
  have b := inB_true h1.1.2.1
  have c := inB_true h1.1.2.2
  omega
theorem goodF_steps {l : Lab} (h : goodLab l = true) : StepsN l.shows.length l.steps := fun s hs => by
  obtain ⟨i, hi, rfl⟩ := List.getElem_of_mem hs
  have := goodF_in h hi
  exact ⟨(l.steps[i]).1.toNat, (l.steps[i]).2.2.toNat, by omega, by omega, by omega, by omega⟩
theorem goodF_acts {l : Lab} (h : goodLab l = true) : ∀ s ∈ l.steps, 0 ≤ s.2.1 ∧ s.2.1 < 8 := fun s hs => by
  obtain ⟨i, hi, rfl⟩ := List.getElem_of_mem hs
  have := goodF_in h hi
  omega
theorem goodF_many {l : Lab} (h : goodLab l = true) : l.steps.length ≤ 12800 := by
  have hn := goodF_size h
  have hk : ∀ k, (hk : k < l.steps.length) → (k : Int) ≤ (l.steps[k]).1 * 320 + (l.steps[k]).2.1 * 40 + (l.steps[k]).2.2 := by
    intro k
    induction k with
    | zero => intro hk; have := goodF_in h hk; omega
    | succ k ih =>
      intro hk
      have h1 := ih (by omega)
      have a1 := goodF_in h hk
      have a0 := goodF_in h (show k < l.steps.length by omega)
      have hg := h
      unfold goodLab goodSteps at hg
      simp only [Bool.and_eq_true] at hg
      have h2 := goodF_all hg.2.1 hk
      unfold stepAt at h2
      have e1 : l.steps.getD (k + 1) (0, 0, 0) = l.steps[k + 1] := by simp [List.getD, hk]
      have e0 : l.steps.getD k (0, 0, 0) = l.steps[k] := by simp [List.getD, show k < l.steps.length by omega]
      rw [Nat.add_sub_cancel, e1, e0] at h2
      simp only [Bool.and_eq_true, Bool.or_eq_true, beq_iff_eq] at h2
      rcases h2.2 with h3 | h3
      · omega
      · have := lt3_code h3 (by omega) (by omega)
        omega
  by_cases hl : l.steps.length ≤ 12800
  · exact hl
  · have h1 := hk 12800 (by omega)
    have h2 := goodF_in h (show 12800 < l.steps.length by omega)
    omega
theorem goodF_row {l : Lab} (h : goodLab l = true) {i : Nat} (hi : i < l.shows.length) : (l.shows.getD i []).Pairwise (· < ·) ∧ (∀ x ∈ l.shows.getD i [], 0 ≤ x ∧ x < 8) ∧ (l.shows.getD i []).length ≤ 8 := by
  unfold goodLab goodShows at h
  simp only [Bool.and_eq_true] at h
  have h1 := goodF_all h.2.2 hi
  generalize l.shows.getD i [] = xs at *
  unfold rising at h1
  have hin : ∀ k, k < xs.length → 0 ≤ xs.getD k 0 ∧ xs.getD k 0 ≤ 7 := fun k hk => by
    have := goodF_all h1 hk
    unfold riseAt at this
    rw [Bool.and_eq_true] at this
    exact inB_true this.1
  have hlt : ∀ k, k + 1 < xs.length → xs.getD k 0 < xs.getD (k + 1) 0 := fun k hk => by
    have := goodF_all h1 hk
    unfold riseAt at this
    simp only [Bool.and_eq_true, Bool.or_eq_true, beq_iff_eq, decide_eq_true_eq, Nat.add_sub_cancel] at this
    rcases this.2 with h2 | h2
    · omega
    · exact h2
  have hmon : ∀ d k, k + d + 1 < xs.length → xs.getD k 0 < xs.getD (k + d + 1) 0 := by
    intro d
    induction d with
    | zero => intro k hk; exact hlt k hk
    | succ d ih =>
      intro k hk
      have a := ih k (by omega)
      have b := hlt (k + d + 1) (by omega)
      rw [show k + (d + 1) + 1 = k + d + 1 + 1 by omega]
      omega
  have hge : ∀ k, k < xs.length → (k : Int) ≤ xs.getD k 0 := by
    intro k
    induction k with
    | zero => intro hk; exact (hin 0 hk).1
    | succ k ih =>
      intro hk
      have a := ih (by omega)
      have b := hlt k hk
      omega
  refine ⟨?_, fun x hx => ?_, ?_⟩
  · rw [List.pairwise_iff_getElem]
    intro i j hi' hj' hij
    have a := hmon (j - i - 1) i (by omega)
    rw [show i + (j - i - 1) + 1 = j by omega] at a
    have e1 : xs.getD i 0 = xs[i] := by simp [List.getD, hi']
    have e2 : xs.getD j 0 = xs[j] := by simp [List.getD, hj']
    omega
  · obtain ⟨j, hj, rfl⟩ := List.getElem_of_mem hx
    have a := hin j hj
    have e1 : xs.getD j 0 = xs[j] := by simp [List.getD, hj]
    omega
  · by_cases hl : xs.length ≤ 8
    · exact hl
    · have a := hge 8 (by omega)
      have b := hin 8 (by omega)
      omega

end Go.Proofs.YtojdobpmknadhaaGreatDoor

namespace Go.Proofs
open Go.Shelf
def Tryz.lays189_ren : Go.Shelf.Ren := ⟨fun | 189 => 80 | 125 => 99 | 257 => 98 | 128 => 114 | 129 => 115 | 294 => 105 | 295 => 106 | 296 => 107 | 297 => 108 | 298 => 109 | 299 => 110 | 216 => 111 | 300 => 112 | 301 => 113 | 328 => 126 | 329 => 127 | 330 => 128 | 331 => 129 | 332 => 130 | 215 => 131 | 343 => 136 | n => n, fun | 28 => 27 | 3 => 3 | 46 => 100 | 0 => 0 | 51 => 117 | 53 => 119 | 4 => 4 | 183 => 110 | 182 => 109 | 131 => 114 | 5 => 5 | 9 => 9 | 218 => 126 | 222 => 130 | 228 => 135 | 229 => 136 | n => n, fun | n => n⟩
theorem Tryz.lays189 : Go.Proofs.Lays.n189 Tryz.prog Tryz.lays189_ren := {
  mixed := by kernel_rfl
  f125 := Tryz.func99.trans (congrArg some (by kernel_rfl))
  f128 := Tryz.func114.trans (congrArg some (by kernel_rfl))
  f129 := Tryz.func115.trans (congrArg some (by kernel_rfl))
  f189 := Tryz.func80.trans (congrArg some (by kernel_rfl))
  f215 := Tryz.func131.trans (congrArg some (by kernel_rfl))
  f216 := Tryz.func111.trans (congrArg some (by kernel_rfl))
  f257 := Tryz.func98.trans (congrArg some (by kernel_rfl))
  f294 := Tryz.func105.trans (congrArg some (by kernel_rfl))
  f295 := Tryz.func106.trans (congrArg some (by kernel_rfl))
  f296 := Tryz.func107.trans (congrArg some (by kernel_rfl))
  f297 := Tryz.func108.trans (congrArg some (by kernel_rfl))
  f298 := Tryz.func109.trans (congrArg some (by kernel_rfl))
  f299 := Tryz.func110.trans (congrArg some (by kernel_rfl))
  f300 := Tryz.func112.trans (congrArg some (by kernel_rfl))
  f301 := Tryz.func113.trans (congrArg some (by kernel_rfl))
  f328 := Tryz.func126.trans (congrArg some (by kernel_rfl))
  f329 := Tryz.func127.trans (congrArg some (by kernel_rfl))
  f330 := Tryz.func128.trans (congrArg some (by kernel_rfl))
  f331 := Tryz.func129.trans (congrArg some (by kernel_rfl))
  f332 := Tryz.func130.trans (congrArg some (by kernel_rfl))
  f343 := Tryz.func136.trans (congrArg some (by kernel_rfl))
  t0 := Tryz.underlying0
  a0 := Tryz.isAgg0
  z0 := Tryz.sizeOf0
  v0 := Tryz.zeroValue0
  t3 := Tryz.underlying3
  a3 := Tryz.isAgg3
  z3 := Tryz.sizeOf3
  v3 := Tryz.zeroValue3
  t4 := Tryz.underlying4
  a4 := Tryz.isAgg4
  z4 := Tryz.sizeOf4
  v4 := Tryz.zeroValue4
  t5 := Tryz.underlying5
  a5 := Tryz.isAgg5
  z5 := Tryz.sizeOf5
  v5 := Tryz.zeroValue5
  t9 := Tryz.underlying9
  a9 := Tryz.isAgg9
  z9 := Tryz.sizeOf9
  v9 := Tryz.zeroValue9
  t28 := Tryz.underlying27
  a28 := Tryz.isAgg27
  z28 := Tryz.sizeOf27
  v28 := Tryz.zeroValue27
  t46 := Tryz.underlying100
  a46 := Tryz.isAgg100
  z46 := Tryz.sizeOf100
  v46 := Tryz.zeroValue100
  t51 := Tryz.underlying117
  a51 := Tryz.isAgg117
  z51 := Tryz.sizeOf117
  v51 := Tryz.zeroValue117
  t53 := Tryz.underlying119
  a53 := Tryz.isAgg119
  z53 := Tryz.sizeOf119
  v53 := Tryz.zeroValue119
  t131 := Tryz.underlying114
  a131 := Tryz.isAgg114
  z131 := Tryz.sizeOf114
  v131 := Tryz.zeroValue114
  t182 := Tryz.underlying109
  a182 := Tryz.isAgg109
  z182 := Tryz.sizeOf109
  v182 := Tryz.zeroValue109
  t183 := Tryz.underlying110
  a183 := Tryz.isAgg110
  z183 := Tryz.sizeOf110
  v183 := Tryz.zeroValue110
  t218 := Tryz.underlying126
  a218 := Tryz.isAgg126
  z218 := Tryz.sizeOf126
  v218 := Tryz.zeroValue126
  t222 := Tryz.underlying130
  a222 := Tryz.isAgg130
  z222 := Tryz.sizeOf130
  v222 := Tryz.zeroValue130
  t228 := Tryz.underlying135
  a228 := Tryz.isAgg135
  z228 := Tryz.sizeOf135
  v228 := Tryz.zeroValue135
  t229 := Tryz.underlying136
  a229 := Tryz.isAgg136
  z229 := Tryz.sizeOf136
  v229 := Tryz.zeroValue136 }
def Tryz.laysSF_ren : Go.Shelf.Ren := ⟨fun | 6 => 83 | 15 => 99 | 14 => 100 | 28 => 114 | 29 => 115 | 20 => 116 | 21 => 117 | 22 => 118 | 23 => 119 | 24 => 120 | 25 => 121 | 26 => 122 | 27 => 123 | 46 => 132 | 47 => 127 | 48 => 128 | 49 => 133 | 50 => 134 | 57 => 137 | n => n, fun | 22 => 23 | 24 => 60 | 25 => 87 | 3 => 3 | 39 => 100 | 0 => 0 | 53 => 117 | 55 => 119 | 4 => 4 | 46 => 110 | 45 => 109 | 50 => 114 | 5 => 5 | 9 => 9 | 66 => 126 | 70 => 130 | 76 => 135 | 77 => 136 | n => n, fun | n => n⟩
theorem Tryz.laysSF : Go.Proofs.SlLaysF0.n6 Tryz.prog Tryz.laysSF_ren := {
  mixed := by kernel_rfl
  f6 := ⟨Tryz.f83.name, by decide, Tryz.func83.trans (congrArg some (by kernel_rfl))⟩
  f14 := ⟨Tryz.f100.name, by decide, Tryz.func100.trans (congrArg some (by kernel_rfl))⟩
  f15 := Tryz.func99.trans (congrArg some (by kernel_rfl))
  f20 := ⟨Tryz.f116.name, by decide, Tryz.func116.trans (congrArg some (by kernel_rfl))⟩
  f21 := ⟨Tryz.f117.name, by decide, Tryz.func117.trans (congrArg some (by kernel_rfl))⟩
  f22 := ⟨Tryz.f118.name, by decide, Tryz.func118.trans (congrArg some (by kernel_rfl))⟩
  f23 := ⟨Tryz.f119.name, by decide, Tryz.func119.trans (congrArg some (by kernel_rfl))⟩
  f24 := ⟨Tryz.f120.name, by decide, Tryz.func120.trans (congrArg some (by kernel_rfl))⟩
  f25 := ⟨Tryz.f121.name, by decide, Tryz.func121.trans (congrArg some (by kernel_rfl))⟩
  f26 := ⟨Tryz.f122.name, by decide, Tryz.func122.trans (congrArg some (by kernel_rfl))⟩
  f27 := ⟨Tryz.f123.name, by decide, Tryz.func123.trans (congrArg some (by kernel_rfl))⟩
  f28 := Tryz.func114.trans (congrArg some (by kernel_rfl))
  f29 := Tryz.func115.trans (congrArg some (by kernel_rfl))
  f46 := ⟨Tryz.f132.name, by decide, Tryz.func132.trans (congrArg some (by kernel_rfl))⟩
  f47 := Tryz.func127.trans (congrArg some (by kernel_rfl))
  f48 := Tryz.func128.trans (congrArg some (by kernel_rfl))
  f49 := ⟨Tryz.f133.name, by decide, Tryz.func133.trans (congrArg some (by kernel_rfl))⟩
  f50 := ⟨Tryz.f134.name, by decide, Tryz.func134.trans (congrArg some (by kernel_rfl))⟩
  f57 := ⟨Tryz.f137.name, by decide, Tryz.func137.trans (congrArg some (by kernel_rfl))⟩
  t0 := Tryz.underlying0
  a0 := Tryz.isAgg0
  z0 := Tryz.sizeOf0
  v0 := Tryz.zeroValue0
  t3 := Tryz.underlying3
  a3 := Tryz.isAgg3
  z3 := Tryz.sizeOf3
  v3 := Tryz.zeroValue3
  t4 := Tryz.underlying4
  a4 := Tryz.isAgg4
  z4 := Tryz.sizeOf4
  v4 := Tryz.zeroValue4
  t5 := Tryz.underlying5
  a5 := Tryz.isAgg5
  z5 := Tryz.sizeOf5
  v5 := Tryz.zeroValue5
  t9 := Tryz.underlying9
  a9 := Tryz.isAgg9
  z9 := Tryz.sizeOf9
  v9 := Tryz.zeroValue9
  t22 := Tryz.underlying23
  a22 := Tryz.isAgg23
  z22 := Tryz.sizeOf23
  v22 := Tryz.zeroValue23
  t25 := Tryz.underlying87
  a25 := Tryz.isAgg87
  z25 := Tryz.sizeOf87
  v25 := Tryz.zeroValue87
  t39 := Tryz.underlying100
  a39 := Tryz.isAgg100
  z39 := Tryz.sizeOf100
  v39 := Tryz.zeroValue100
  t45 := Tryz.underlying109
  a45 := Tryz.isAgg109
  z45 := Tryz.sizeOf109
  v45 := Tryz.zeroValue109
  t46 := Tryz.underlying110
  a46 := Tryz.isAgg110
  z46 := Tryz.sizeOf110
  v46 := Tryz.zeroValue110
  t50 := Tryz.underlying114
  a50 := Tryz.isAgg114
  z50 := Tryz.sizeOf114
  v50 := Tryz.zeroValue114
  t53 := Tryz.underlying117
  a53 := Tryz.isAgg117
  z53 := Tryz.sizeOf117
  v53 := Tryz.zeroValue117
  t55 := Tryz.underlying119
  a55 := Tryz.isAgg119
  z55 := Tryz.sizeOf119
  v55 := Tryz.zeroValue119
  t66 := Tryz.underlying126
  a66 := Tryz.isAgg126
  z66 := Tryz.sizeOf126
  v66 := Tryz.zeroValue126
  t70 := Tryz.underlying130
  a70 := Tryz.isAgg130
  z70 := Tryz.sizeOf130
  v70 := Tryz.zeroValue130
  t76 := Tryz.underlying135
  a76 := Tryz.isAgg135
  z76 := Tryz.sizeOf135
  v76 := Tryz.zeroValue135
  t77 := Tryz.underlying136
  a77 := Tryz.isAgg136
  z77 := Tryz.sizeOf136
  v77 := Tryz.zeroValue136 }
end Go.Proofs
