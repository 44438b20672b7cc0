/- Labelled systems: the saturated system, and the quotient. Plain law: program and reference list the same. DERIVED: THE SHELF's CONTRACTS AT THIS DUMP, IN PLAIN WORDS (tools/lay-plain.mjs out of 'YtdgnhfhaaghoaaaGreatDoorShelfSA.lean', which tools/lay-shelf.mjs wrote): THE SAME DECLARATIONS UNDER THE SAME NAMES: 'import', 'namespace', 'open', 'def', 'theorem' AND NOTHING ELSE: no command of the shelf's: FOR A HAND-IN. Each laying: the table of numbers ('.._ren') and one theorem, a field a fact of the dump's own or the kernel's comparison; each contract: ONE APPLICATION. -/
import Derived.Test.YtdgnhfhaaghoaaaGreatDoorJ16
import Derived.Ground.NamesProg
import Derived.Ground.SlsfProg
import Derived.Shelf.SlGeneric
import Derived.Shelf.Sort.Plain
import Derived.Shelf.SlSortCmp.NoneTotal
import Derived.Test.YtdgnhfhaaghoaaaGreatDoorProg
set_option linter.unusedVariables false
namespace Go.Proofs.YtdgnhfhaaghoaaaGreatDoor

/-- Numbers of a second list put to a first one. -/
def unionI (a b : List Int) : List Int := b.foldl putI a
theorem union_fold : ∀ (b a : List Int), a.Pairwise (· < ·) → (unionI a b).Pairwise (· < ·) ∧ ∀ x, x ∈ unionI a b ↔ x ∈ a ∨ x ∈ b
  | [], a, h => ⟨h, fun x => by simp [unionI]⟩
  | y :: b, a, h => by
    obtain ⟨h1, h2⟩ := union_fold b (putI a y) (putI_sorted y h)
    refine ⟨h1, fun x => ?_⟩
    have := h2 x
    unfold unionI at this ⊢
    rw [List.foldl_cons, this, putI_mem, List.mem_cons]
    constructor
    · rintro ((h | h) | h)
      · exact .inl h
      · exact .inr (.inl h)
      · exact .inr (.inr h)
    · rintro (h | h | h)
      · exact .inl (.inl h)
      · exact .inl (.inr h)
      · exact .inr h
theorem union_of {a b o : List Int} (ha : a.Pairwise (· < ·)) (ho : o.Pairwise (· < ·)) (hm : ∀ x, x ∈ o ↔ x ∈ a ∨ x ∈ b) : o = unionI a b :=
  sorted_eq ho (union_fold b a ha).1 fun x => (hm x).trans ((union_fold b a ha).2 x).symm

def unionsI (sh : List (List Int)) (ts : List Int) (o : List Int) : List Int := ts.foldl (fun o t => unionI o (sh.getD t.toNat [])) o
theorem unions_fold (sh : List (List Int)) : ∀ (ts o : List Int), o.Pairwise (· < ·) → (unionsI sh ts o).Pairwise (· < ·) ∧ ∀ x, x ∈ unionsI sh ts o ↔ x ∈ o ∨ ∃ t ∈ ts, x ∈ sh.getD t.toNat []
  | [], o, h => ⟨h, fun x => by simp [unionsI]⟩
  | t :: ts, o, h => by
    obtain ⟨a1, a2⟩ := union_fold (sh.getD t.toNat []) o h
    obtain ⟨h1, h2⟩ := unions_fold sh ts _ a1
    refine ⟨h1, fun x => ?_⟩
    have := h2 x
    unfold unionsI at this ⊢
    rw [List.foldl_cons, this, a2 x]
    constructor
    · rintro ((h | h) | ⟨u, hu, h⟩)
      · exact .inl h
      · exact .inr ⟨t, by simp, h⟩
      · exact .inr ⟨u, by simp [hu], h⟩
    · rintro (h | ⟨u, hu, h⟩)
      · exact .inl (.inl h)
      · rcases List.mem_cons.1 hu with rfl | hu
        · exact .inl (.inr h)
        · exact .inr ⟨u, hu, h⟩
/-- The marks of a state: of all states to which silent ways lead. -/
def progShow (n : Nat) (sh : List (List Int)) (ss : List I3) (i : Nat) : List Int := unionsI sh (waysR n ss i) []
def silL (n : Nat) (ss : List I3) (i : Nat) : List Int := ((List.range n).filter fun j => silF n ss i j).map fun (j : Nat) => (j : Int)
def specShow (n : Nat) (sh : List (List Int)) (ss : List I3) (i : Nat) : List Int := unionsI sh (silL n ss i) []
theorem show_same {n : Nat} {sh : List (List Int)} {ss : List I3} (h : StepsN n ss) {i : Nat} (hi : i < n) : specShow n sh ss i = progShow n sh ss i := by
  obtain ⟨a1, a2⟩ := unions_fold sh (silL n ss i) [] List.Pairwise.nil
  obtain ⟨b1, b2⟩ := unions_fold sh (waysR n ss i) [] List.Pairwise.nil
  refine sorted_eq a1 b1 fun x => ?_
  show x ∈ unionsI sh (silL n ss i) [] ↔ x ∈ unionsI sh (waysR n ss i) []
  rw [a2 x, b2 x]
  simp only [List.not_mem_nil, false_or]
  constructor
  · rintro ⟨t, ht, hx⟩
    unfold silL at ht
    simp only [List.mem_map, List.mem_filter, List.mem_range] at ht
    obtain ⟨j, ⟨hj, hf⟩, rfl⟩ := ht
    exact ⟨(j : Int), (sil_iff h hi hj).1 hf, hx⟩
  · rintro ⟨t, ht, hx⟩
    obtain ⟨j, rfl, hj⟩ := ways_inN h hi t ht
    refine ⟨(j : Int), ?_, hx⟩
    unfold silL
    simp only [List.mem_map, List.mem_filter, List.mem_range]
    exact ⟨j, ⟨hj, (sil_iff h hi hj).2 ht⟩, rfl⟩

def satL (l : Lab) : Lab := ⟨(List.range l.shows.length).map (progShow l.shows.length l.shows l.steps), sortT (progSat l.shows.length l.steps)⟩
theorem satL_len (l : Lab) : (satL l).shows.length = l.shows.length := by simp [satL]
theorem prog_steps {n : Nat} {ss : List I3} (h : StepsN n ss) (ha : ∀ s ∈ ss, 0 ≤ s.2.1 ∧ s.2.1 < 8) : ∀ x ∈ progSat n ss, (∃ i j : Nat, x.1 = (i : Int) ∧ x.2.2 = (j : Int) ∧ i < n ∧ j < n) ∧ 0 ≤ x.2.1 ∧ x.2.1 < 8 := by
  intro x hx
  unfold progSat at hx
  simp only [List.mem_flatMap, List.mem_map, List.mem_filter, List.mem_range, List.mem_cons] at hx
  obtain ⟨i, hi, t, ht, h1 | ⟨s, ⟨hs, h1⟩, e, he, rfl⟩⟩ := hx
  · subst h1
    obtain ⟨j, rfl, hj⟩ := ways_inN h hi t ht
    exact ⟨⟨i, j, rfl, rfl, hi, hj⟩, by simp, by simp⟩
  · obtain ⟨u, v, hu, hv, hun, hvn⟩ := h s hs
    have h2 : s.2.2.toNat = v := by omega
    rw [h2] at he
    obtain ⟨j, rfl, hj⟩ := ways_inN h hvn e he
    exact ⟨⟨i, j, rfl, rfl, hi, hj⟩, ha s hs⟩
theorem satL_steps {l : Lab} (h : StepsN l.shows.length l.steps) (ha : ∀ s ∈ l.steps, 0 ≤ s.2.1 ∧ s.2.1 < 8) : StepsN (satL l).shows.length (satL l).steps ∧ ∀ s ∈ (satL l).steps, 0 ≤ s.2.1 ∧ s.2.1 < 8 := by
  rw [satL_len]
  constructor
  · intro s hs
    exact (prog_steps h ha s ((sortT_mem _ _).1 hs)).1
  · intro s hs
    exact (prog_steps h ha s ((sortT_mem _ _).1 hs)).2

/-! The quotient. -/

def isRep (l : Lab) (i : Nat) : Bool := (lastL l).getD i 0 == (i : Int)
def repsI (l : Lab) : List Int := ((List.range l.shows.length).filter (isRep l)).map fun (i : Nat) => (i : Int)
/-- The place of a state among those that are the least of their part. -/
def posR (l : Lab) (i : Nat) : Nat := ((List.range i).filter (isRep l)).length

theorem reps_sorted (l : Lab) : (repsI l).Pairwise (· < ·) := by
  unfold repsI
  rw [List.pairwise_map]
  exact List.Pairwise.imp (by intro a b h; omega) (List.pairwise_lt_range.filter _)
theorem last_rep (l : Lab) {i : Nat} (hi : i < l.shows.length) : ∃ k : Nat, (lastL l).getD i 0 = (k : Int) ∧ k < l.shows.length ∧ isRep l k = true := by
  obtain ⟨k, h1, h2, h3, _⟩ := parts_spec l l.shows.length hi
  have hk : k < l.shows.length := by omega
  refine ⟨k, h1, hk, ?_⟩
  unfold isRep
  rw [beq_iff_eq]
  have := (parts_iff l l.shows.length hk hi).2 h3
  unfold lastL
  rw [this, h1]
theorem reps_mem (l : Lab) (x : Int) : x ∈ repsI l ↔ x ∈ lastL l := by
  have hl : (lastL l).length = l.shows.length := parts_len l _
  unfold repsI
  simp only [List.mem_map, List.mem_filter, List.mem_range]
  constructor
  · rintro ⟨i, ⟨hi, hr⟩, rfl⟩
    unfold isRep at hr
    rw [beq_iff_eq] at hr
    rw [← hr]
    simp [List.getD, show i < (lastL l).length by omega]
  · intro hx
    obtain ⟨j, hj, e⟩ := List.getElem_of_mem hx
    obtain ⟨k, h1, h2, h3⟩ := last_rep l (i := j) (by omega)
    have : (lastL l).getD j 0 = x := by simp [List.getD, hj, e]
    exact ⟨k, ⟨h2, h3⟩, by rw [← h1, this]⟩
theorem range_at {p : Nat → Bool} : ∀ {n i : Nat}, i < n → p i = true → ((List.range n).filter p)[((List.range i).filter p).length]? = some i
  | 0, i, hi, _ => by omega
  | n + 1, i, hi, hp => by
    rw [List.range_succ, List.filter_append]
    by_cases h : i < n
    · have ih := range_at h hp
      rw [List.getElem?_append_left (List.getElem?_eq_some_iff.1 ih).1]
      exact ih
    · obtain rfl : i = n := by omega
      rw [List.getElem?_append_right (Nat.le_refl _), Nat.sub_self, List.filter_cons, if_pos hp]
      rfl
theorem reps_at (l : Lab) {i : Nat} (hi : i < l.shows.length) (hr : isRep l i = true) : (repsI l)[posR l i]? = some (i : Int) := by
  unfold repsI posR
  rw [List.getElem?_map, range_at hi hr]
  rfl
theorem reps_idx (l : Lab) {i : Nat} (hi : i < l.shows.length) (hr : isRep l i = true) : idxR (repsI l).length (fun k => (repsI l).getD k 0 == (i : Int)) = (posR l i : Int) := by
  have h := reps_at l hi hr
  obtain ⟨hl, e⟩ := List.getElem?_eq_some_iff.1 h
  refine idxR_some hl (fun j hj => ?_) ?_
  · have hs := (List.pairwise_iff_getElem.1 (reps_sorted l)) j (posR l i) (by omega) hl hj
    rw [e] at hs
    rw [beq_eq_false_iff_ne]
    simp [List.getD, show j < (repsI l).length by omega]
    omega
  · rw [beq_iff_eq]
    simp [List.getD, h]
theorem reps_no (l : Lab) {i : Nat} (hr : isRep l i = false) : idxR (repsI l).length (fun k => (repsI l).getD k 0 == (i : Int)) = -1 := by
  refine idxR_none fun j hj => ?_
  rw [beq_eq_false_iff_ne]
  intro e
  have : (i : Int) ∈ repsI l := by
    rw [← e]
    simp [List.getD, hj]
  unfold repsI at this
  simp only [List.mem_map, List.mem_filter, List.mem_range] at this
  obtain ⟨k, ⟨_, hk⟩, e⟩ := this
  obtain rfl : k = i := by omega
  rw [hr] at hk
  cases hk

def quoSteps (l : Lab) : List I3 := (l.steps.filter fun s => isRep l s.1.toNat).map fun s => ((posR l s.1.toNat : Int), s.2.1, (posR l ((lastL l).getD s.2.2.toNat 0).toNat : Int))
def quoL (l : Lab) : Lab := ⟨(repsI l).map fun i => l.shows.getD i.toNat [], sortT (quoSteps l)⟩

end Go.Proofs.YtdgnhfhaaghoaaaGreatDoor

namespace Go.Proofs
open Go.Shelf
def Tryz.lays189_ren : Go.Shelf.Ren := ⟨fun | 189 => 153 | 125 => 179 | 257 => 178 | 128 => 194 | 129 => 195 | 294 => 185 | 295 => 186 | 296 => 187 | 297 => 188 | 298 => 189 | 299 => 190 | 216 => 191 | 300 => 192 | 301 => 193 | 328 => 206 | 329 => 207 | 330 => 208 | 331 => 209 | 332 => 210 | 215 => 211 | 343 => 219 | n => n, fun | 28 => 30 | 3 => 3 | 46 => 157 | 0 => 0 | 51 => 172 | 53 => 92 | 4 => 4 | 183 => 166 | 182 => 165 | 131 => 169 | 5 => 5 | 9 => 9 | 218 => 180 | 222 => 184 | 228 => 192 | 229 => 193 | n => n, fun | n => n⟩
theorem Tryz.lays189 : Go.Proofs.Lays.n189 Tryz.prog Tryz.lays189_ren := {
  mixed := by kernel_rfl
  f125 := Tryz.func179.trans (congrArg some (by kernel_rfl))
  f128 := Tryz.func194.trans (congrArg some (by kernel_rfl))
  f129 := Tryz.func195.trans (congrArg some (by kernel_rfl))
  f189 := Tryz.func153.trans (congrArg some (by kernel_rfl))
  f215 := Tryz.func211.trans (congrArg some (by kernel_rfl))
  f216 := Tryz.func191.trans (congrArg some (by kernel_rfl))
  f257 := Tryz.func178.trans (congrArg some (by kernel_rfl))
  f294 := Tryz.func185.trans (congrArg some (by kernel_rfl))
  f295 := Tryz.func186.trans (congrArg some (by kernel_rfl))
  f296 := Tryz.func187.trans (congrArg some (by kernel_rfl))
  f297 := Tryz.func188.trans (congrArg some (by kernel_rfl))
  f298 := Tryz.func189.trans (congrArg some (by kernel_rfl))
  f299 := Tryz.func190.trans (congrArg some (by kernel_rfl))
  f300 := Tryz.func192.trans (congrArg some (by kernel_rfl))
  f301 := Tryz.func193.trans (congrArg some (by kernel_rfl))
  f328 := Tryz.func206.trans (congrArg some (by kernel_rfl))
  f329 := Tryz.func207.trans (congrArg some (by kernel_rfl))
  f330 := Tryz.func208.trans (congrArg some (by kernel_rfl))
  f331 := Tryz.func209.trans (congrArg some (by kernel_rfl))
  f332 := Tryz.func210.trans (congrArg some (by kernel_rfl))
  f343 := Tryz.func219.trans (congrArg some (by kernel_rfl))
  t0 := Tryz.underlying0
  a0 := Tryz.isAgg0
  z0 := Tryz.sizeOf0
  v0 := Tryz.zeroValue0
  t3 := Tryz.underlying3
  a3 := Tryz.isAgg3
  z3 := Tryz.sizeOf3
  v3 := Tryz.zeroValue3
  t4 := Tryz.underlying4
  a4 := Tryz.isAgg4
  z4 := Tryz.sizeOf4
  v4 := Tryz.zeroValue4
  t5 := Tryz.underlying5
  a5 := Tryz.isAgg5
  z5 := Tryz.sizeOf5
  v5 := Tryz.zeroValue5
  t9 := Tryz.underlying9
  a9 := Tryz.isAgg9
  z9 := Tryz.sizeOf9
  v9 := Tryz.zeroValue9
  t28 := Tryz.underlying30
  a28 := Tryz.isAgg30
  z28 := Tryz.sizeOf30
  v28 := Tryz.zeroValue30
  t46 := Tryz.underlying157
  a46 := Tryz.isAgg157
  z46 := Tryz.sizeOf157
  v46 := Tryz.zeroValue157
  t51 := Tryz.underlying172
  a51 := Tryz.isAgg172
  z51 := Tryz.sizeOf172
  v51 := Tryz.zeroValue172
  t53 := Tryz.underlying92
  a53 := Tryz.isAgg92
  z53 := Tryz.sizeOf92
  v53 := Tryz.zeroValue92
  t131 := Tryz.underlying169
  a131 := Tryz.isAgg169
  z131 := Tryz.sizeOf169
  v131 := Tryz.zeroValue169
  t182 := Tryz.underlying165
  a182 := Tryz.isAgg165
  z182 := Tryz.sizeOf165
  v182 := Tryz.zeroValue165
  t183 := Tryz.underlying166
  a183 := Tryz.isAgg166
  z183 := Tryz.sizeOf166
  v183 := Tryz.zeroValue166
  t218 := Tryz.underlying180
  a218 := Tryz.isAgg180
  z218 := Tryz.sizeOf180
  v218 := Tryz.zeroValue180
  t222 := Tryz.underlying184
  a222 := Tryz.isAgg184
  z222 := Tryz.sizeOf184
  v222 := Tryz.zeroValue184
  t228 := Tryz.underlying192
  a228 := Tryz.isAgg192
  z228 := Tryz.sizeOf192
  v228 := Tryz.zeroValue192
  t229 := Tryz.underlying193
  a229 := Tryz.isAgg193
  z229 := Tryz.sizeOf193
  v229 := Tryz.zeroValue193 }
def Tryz.laysSF_ren : Go.Shelf.Ren := ⟨fun | 6 => 155 | 15 => 179 | 14 => 180 | 28 => 194 | 29 => 195 | 20 => 196 | 21 => 197 | 22 => 198 | 23 => 199 | 24 => 200 | 25 => 201 | 26 => 202 | 27 => 203 | 46 => 212 | 47 => 207 | 48 => 208 | 49 => 213 | 50 => 214 | 57 => 220 | n => n, fun | 22 => 25 | 24 => 103 | 25 => 142 | 3 => 3 | 39 => 157 | 0 => 0 | 53 => 172 | 55 => 92 | 4 => 4 | 46 => 166 | 45 => 165 | 50 => 169 | 5 => 5 | 9 => 9 | 66 => 180 | 70 => 184 | 76 => 192 | 77 => 193 | n => n, fun | n => n⟩
theorem Tryz.laysSF : Go.Proofs.SlLaysF0.n6 Tryz.prog Tryz.laysSF_ren := {
  mixed := by kernel_rfl
  f6 := ⟨Tryz.f155.name, by decide, Tryz.func155.trans (congrArg some (by kernel_rfl))⟩
  f14 := ⟨Tryz.f180.name, by decide, Tryz.func180.trans (congrArg some (by kernel_rfl))⟩
  f15 := Tryz.func179.trans (congrArg some (by kernel_rfl))
  f20 := ⟨Tryz.f196.name, by decide, Tryz.func196.trans (congrArg some (by kernel_rfl))⟩
  f21 := ⟨Tryz.f197.name, by decide, Tryz.func197.trans (congrArg some (by kernel_rfl))⟩
  f22 := ⟨Tryz.f198.name, by decide, Tryz.func198.trans (congrArg some (by kernel_rfl))⟩
  f23 := ⟨Tryz.f199.name, by decide, Tryz.func199.trans (congrArg some (by kernel_rfl))⟩
  f24 := ⟨Tryz.f200.name, by decide, Tryz.func200.trans (congrArg some (by kernel_rfl))⟩
  f25 := ⟨Tryz.f201.name, by decide, Tryz.func201.trans (congrArg some (by kernel_rfl))⟩
  f26 := ⟨Tryz.f202.name, by decide, Tryz.func202.trans (congrArg some (by kernel_rfl))⟩
  f27 := ⟨Tryz.f203.name, by decide, Tryz.func203.trans (congrArg some (by kernel_rfl))⟩
  f28 := Tryz.func194.trans (congrArg some (by kernel_rfl))
  f29 := Tryz.func195.trans (congrArg some (by kernel_rfl))
  f46 := ⟨Tryz.f212.name, by decide, Tryz.func212.trans (congrArg some (by kernel_rfl))⟩
  f47 := Tryz.func207.trans (congrArg some (by kernel_rfl))
  f48 := Tryz.func208.trans (congrArg some (by kernel_rfl))
  f49 := ⟨Tryz.f213.name, by decide, Tryz.func213.trans (congrArg some (by kernel_rfl))⟩
  f50 := ⟨Tryz.f214.name, by decide, Tryz.func214.trans (congrArg some (by kernel_rfl))⟩
  f57 := ⟨Tryz.f220.name, by decide, Tryz.func220.trans (congrArg some (by kernel_rfl))⟩
  t0 := Tryz.underlying0
  a0 := Tryz.isAgg0
  z0 := Tryz.sizeOf0
  v0 := Tryz.zeroValue0
  t3 := Tryz.underlying3
  a3 := Tryz.isAgg3
  z3 := Tryz.sizeOf3
  v3 := Tryz.zeroValue3
  t4 := Tryz.underlying4
  a4 := Tryz.isAgg4
  z4 := Tryz.sizeOf4
  v4 := Tryz.zeroValue4
  t5 := Tryz.underlying5
  a5 := Tryz.isAgg5
  z5 := Tryz.sizeOf5
  v5 := Tryz.zeroValue5
  t9 := Tryz.underlying9
  a9 := Tryz.isAgg9
  z9 := Tryz.sizeOf9
  v9 := Tryz.zeroValue9
  t22 := Tryz.underlying25
  a22 := Tryz.isAgg25
  z22 := Tryz.sizeOf25
  v22 := Tryz.zeroValue25
  t25 := Tryz.underlying142
  a25 := Tryz.isAgg142
  z25 := Tryz.sizeOf142
  v25 := Tryz.zeroValue142
  t39 := Tryz.underlying157
  a39 := Tryz.isAgg157
  z39 := Tryz.sizeOf157
  v39 := Tryz.zeroValue157
  t45 := Tryz.underlying165
  a45 := Tryz.isAgg165
  z45 := Tryz.sizeOf165
  v45 := Tryz.zeroValue165
  t46 := Tryz.underlying166
  a46 := Tryz.isAgg166
  z46 := Tryz.sizeOf166
  v46 := Tryz.zeroValue166
  t50 := Tryz.underlying169
  a50 := Tryz.isAgg169
  z50 := Tryz.sizeOf169
  v50 := Tryz.zeroValue169
  t53 := Tryz.underlying172
  a53 := Tryz.isAgg172
  z53 := Tryz.sizeOf172
  v53 := Tryz.zeroValue172
  t55 := Tryz.underlying92
  a55 := Tryz.isAgg92
  z55 := Tryz.sizeOf92
  v55 := Tryz.zeroValue92
  t66 := Tryz.underlying180
  a66 := Tryz.isAgg180
  z66 := Tryz.sizeOf180
  v66 := Tryz.zeroValue180
  t70 := Tryz.underlying184
  a70 := Tryz.isAgg184
  z70 := Tryz.sizeOf184
  v70 := Tryz.zeroValue184
  t76 := Tryz.underlying192
  a76 := Tryz.isAgg192
  z76 := Tryz.sizeOf192
  v76 := Tryz.zeroValue192
  t77 := Tryz.underlying193
  a77 := Tryz.isAgg193
  z77 := Tryz.sizeOf193
  v77 := Tryz.zeroValue193 }
end Go.Proofs
