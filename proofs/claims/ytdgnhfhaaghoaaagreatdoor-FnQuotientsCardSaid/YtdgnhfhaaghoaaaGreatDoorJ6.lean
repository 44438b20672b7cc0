/- DERIVED: THE SHELF's CONTRACTS AT THIS DUMP, IN PLAIN WORDS (tools/lay-plain.mjs out of 'YtdgnhfhaaghoaaaGreatDoorShelfSA.lean', which tools/lay-shelf.mjs wrote): THE SAME DECLARATIONS UNDER THE SAME NAMES: 'import', 'namespace', 'open', 'def', 'theorem' AND NOTHING ELSE: no command of the shelf's: FOR A HAND-IN. Each laying: the table of numbers ('.._ren') and one theorem, a field a fact of the dump's own or the kernel's comparison; each contract: ONE APPLICATION. Slices whose elements take several cells: how they are read. No program is in sight. -/
import Derived.Ground.NamesProg
import Derived.Ground.SlsfProg
import Derived.Shelf.SlGeneric
import Derived.Shelf.Sort.Plain
import Derived.Shelf.SlSortCmp.NoneTotal
import Derived.Test.YtdgnhfhaaghoaaaGreatDoorProg
import Derived.Test.YtdgnhfhaaghoaaaGreatDoorJ0
set_option linter.unusedSimpArgs false
namespace Go.Proofs
open Go.Shelf
def Tryz.lays189_ren : Go.Shelf.Ren := ⟨fun | 189 => 153 | 125 => 179 | 257 => 178 | 128 => 194 | 129 => 195 | 294 => 185 | 295 => 186 | 296 => 187 | 297 => 188 | 298 => 189 | 299 => 190 | 216 => 191 | 300 => 192 | 301 => 193 | 328 => 206 | 329 => 207 | 330 => 208 | 331 => 209 | 332 => 210 | 215 => 211 | 343 => 219 | n => n, fun | 28 => 30 | 3 => 3 | 46 => 157 | 0 => 0 | 51 => 172 | 53 => 92 | 4 => 4 | 183 => 166 | 182 => 165 | 131 => 169 | 5 => 5 | 9 => 9 | 218 => 180 | 222 => 184 | 228 => 192 | 229 => 193 | n => n, fun | n => n⟩
theorem Tryz.lays189 : Go.Proofs.Lays.n189 Tryz.prog Tryz.lays189_ren := {
  mixed := by kernel_rfl
  f125 := Tryz.func179.trans (congrArg some (by kernel_rfl))
  f128 := Tryz.func194.trans (congrArg some (by kernel_rfl))
  f129 := Tryz.func195.trans (congrArg some (by kernel_rfl))
  f189 := Tryz.func153.trans (congrArg some (by kernel_rfl))
  f215 := Tryz.func211.trans (congrArg some (by kernel_rfl))
  f216 := Tryz.func191.trans (congrArg some (by kernel_rfl))
  f257 := Tryz.func178.trans (congrArg some (by kernel_rfl))
  f294 := Tryz.func185.trans (congrArg some (by kernel_rfl))
  f295 := Tryz.func186.trans (congrArg some (by kernel_rfl))
  f296 := Tryz.func187.trans (congrArg some (by kernel_rfl))
  f297 := Tryz.func188.trans (congrArg some (by kernel_rfl))
  f298 := Tryz.func189.trans (congrArg some (by kernel_rfl))
  f299 := Tryz.func190.trans (congrArg some (by kernel_rfl))
  f300 := Tryz.func192.trans (congrArg some (by kernel_rfl))
  f301 := Tryz.func193.trans (congrArg some (by kernel_rfl))
  f328 := Tryz.func206.trans (congrArg some (by kernel_rfl))
  f329 := Tryz.func207.trans (congrArg some (by kernel_rfl))
  f330 := Tryz.func208.trans (congrArg some (by kernel_rfl))
  f331 := Tryz.func209.trans (congrArg some (by kernel_rfl))
  f332 := Tryz.func210.trans (congrArg some (by kernel_rfl))
  f343 := Tryz.func219.trans (congrArg some (by kernel_rfl))
  t0 := Tryz.underlying0
  a0 := Tryz.isAgg0
  z0 := Tryz.sizeOf0
  v0 := Tryz.zeroValue0
  t3 := Tryz.underlying3
  a3 := Tryz.isAgg3
  z3 := Tryz.sizeOf3
  v3 := Tryz.zeroValue3
  t4 := Tryz.underlying4
  a4 := Tryz.isAgg4
  z4 := Tryz.sizeOf4
  v4 := Tryz.zeroValue4
  t5 := Tryz.underlying5
  a5 := Tryz.isAgg5
  z5 := Tryz.sizeOf5
  v5 := Tryz.zeroValue5
  t9 := Tryz.underlying9
  a9 := Tryz.isAgg9
  z9 := Tryz.sizeOf9
  v9 := Tryz.zeroValue9
  t28 := Tryz.underlying30
  a28 := Tryz.isAgg30
  z28 := Tryz.sizeOf30
  v28 := Tryz.zeroValue30
  t46 := Tryz.underlying157
  a46 := Tryz.isAgg157
  z46 := Tryz.sizeOf157
  v46 := Tryz.zeroValue157
  t51 := Tryz.underlying172
  a51 := Tryz.isAgg172
  z51 := Tryz.sizeOf172
  v51 := Tryz.zeroValue172
  t53 := Tryz.underlying92
  a53 := Tryz.isAgg92
  z53 := Tryz.sizeOf92
  v53 := Tryz.zeroValue92
  t131 := Tryz.underlying169
  a131 := Tryz.isAgg169
  z131 := Tryz.sizeOf169
  v131 := Tryz.zeroValue169
  t182 := Tryz.underlying165
  a182 := Tryz.isAgg165
  z182 := Tryz.sizeOf165
  v182 := Tryz.zeroValue165
  t183 := Tryz.underlying166
  a183 := Tryz.isAgg166
  z183 := Tryz.sizeOf166
  v183 := Tryz.zeroValue166
  t218 := Tryz.underlying180
  a218 := Tryz.isAgg180
  z218 := Tryz.sizeOf180
  v218 := Tryz.zeroValue180
  t222 := Tryz.underlying184
  a222 := Tryz.isAgg184
  z222 := Tryz.sizeOf184
  v222 := Tryz.zeroValue184
  t228 := Tryz.underlying192
  a228 := Tryz.isAgg192
  z228 := Tryz.sizeOf192
  v228 := Tryz.zeroValue192
  t229 := Tryz.underlying193
  a229 := Tryz.isAgg193
  z229 := Tryz.sizeOf193
  v229 := Tryz.zeroValue193 }
def Tryz.laysSF_ren : Go.Shelf.Ren := ⟨fun | 6 => 155 | 15 => 179 | 14 => 180 | 28 => 194 | 29 => 195 | 20 => 196 | 21 => 197 | 22 => 198 | 23 => 199 | 24 => 200 | 25 => 201 | 26 => 202 | 27 => 203 | 46 => 212 | 47 => 207 | 48 => 208 | 49 => 213 | 50 => 214 | 57 => 220 | n => n, fun | 22 => 25 | 24 => 103 | 25 => 142 | 3 => 3 | 39 => 157 | 0 => 0 | 53 => 172 | 55 => 92 | 4 => 4 | 46 => 166 | 45 => 165 | 50 => 169 | 5 => 5 | 9 => 9 | 66 => 180 | 70 => 184 | 76 => 192 | 77 => 193 | n => n, fun | n => n⟩
theorem Tryz.laysSF : Go.Proofs.SlLaysF0.n6 Tryz.prog Tryz.laysSF_ren := {
  mixed := by kernel_rfl
  f6 := ⟨Tryz.f155.name, by decide, Tryz.func155.trans (congrArg some (by kernel_rfl))⟩
  f14 := ⟨Tryz.f180.name, by decide, Tryz.func180.trans (congrArg some (by kernel_rfl))⟩
  f15 := Tryz.func179.trans (congrArg some (by kernel_rfl))
  f20 := ⟨Tryz.f196.name, by decide, Tryz.func196.trans (congrArg some (by kernel_rfl))⟩
  f21 := ⟨Tryz.f197.name, by decide, Tryz.func197.trans (congrArg some (by kernel_rfl))⟩
  f22 := ⟨Tryz.f198.name, by decide, Tryz.func198.trans (congrArg some (by kernel_rfl))⟩
  f23 := ⟨Tryz.f199.name, by decide, Tryz.func199.trans (congrArg some (by kernel_rfl))⟩
  f24 := ⟨Tryz.f200.name, by decide, Tryz.func200.trans (congrArg some (by kernel_rfl))⟩
  f25 := ⟨Tryz.f201.name, by decide, Tryz.func201.trans (congrArg some (by kernel_rfl))⟩
  f26 := ⟨Tryz.f202.name, by decide, Tryz.func202.trans (congrArg some (by kernel_rfl))⟩
  f27 := ⟨Tryz.f203.name, by decide, Tryz.func203.trans (congrArg some (by kernel_rfl))⟩
  f28 := Tryz.func194.trans (congrArg some (by kernel_rfl))
  f29 := Tryz.func195.trans (congrArg some (by kernel_rfl))
  f46 := ⟨Tryz.f212.name, by decide, Tryz.func212.trans (congrArg some (by kernel_rfl))⟩
  f47 := Tryz.func207.trans (congrArg some (by kernel_rfl))
  f48 := Tryz.func208.trans (congrArg some (by kernel_rfl))
  f49 := ⟨Tryz.f213.name, by decide, Tryz.func213.trans (congrArg some (by kernel_rfl))⟩
  f50 := ⟨Tryz.f214.name, by decide, Tryz.func214.trans (congrArg some (by kernel_rfl))⟩
  f57 := ⟨Tryz.f220.name, by decide, Tryz.func220.trans (congrArg some (by kernel_rfl))⟩
  t0 := Tryz.underlying0
  a0 := Tryz.isAgg0
  z0 := Tryz.sizeOf0
  v0 := Tryz.zeroValue0
  t3 := Tryz.underlying3
  a3 := Tryz.isAgg3
  z3 := Tryz.sizeOf3
  v3 := Tryz.zeroValue3
  t4 := Tryz.underlying4
  a4 := Tryz.isAgg4
  z4 := Tryz.sizeOf4
  v4 := Tryz.zeroValue4
  t5 := Tryz.underlying5
  a5 := Tryz.isAgg5
  z5 := Tryz.sizeOf5
  v5 := Tryz.zeroValue5
  t9 := Tryz.underlying9
  a9 := Tryz.isAgg9
  z9 := Tryz.sizeOf9
  v9 := Tryz.zeroValue9
  t22 := Tryz.underlying25
  a22 := Tryz.isAgg25
  z22 := Tryz.sizeOf25
  v22 := Tryz.zeroValue25
  t25 := Tryz.underlying142
  a25 := Tryz.isAgg142
  z25 := Tryz.sizeOf142
  v25 := Tryz.zeroValue142
  t39 := Tryz.underlying157
  a39 := Tryz.isAgg157
  z39 := Tryz.sizeOf157
  v39 := Tryz.zeroValue157
  t45 := Tryz.underlying165
  a45 := Tryz.isAgg165
  z45 := Tryz.sizeOf165
  v45 := Tryz.zeroValue165
  t46 := Tryz.underlying166
  a46 := Tryz.isAgg166
  z46 := Tryz.sizeOf166
  v46 := Tryz.zeroValue166
  t50 := Tryz.underlying169
  a50 := Tryz.isAgg169
  z50 := Tryz.sizeOf169
  v50 := Tryz.zeroValue169
  t53 := Tryz.underlying172
  a53 := Tryz.isAgg172
  z53 := Tryz.sizeOf172
  v53 := Tryz.zeroValue172
  t55 := Tryz.underlying92
  a55 := Tryz.isAgg92
  z55 := Tryz.sizeOf92
  v55 := Tryz.zeroValue92
  t66 := Tryz.underlying180
  a66 := Tryz.isAgg180
  z66 := Tryz.sizeOf180
  v66 := Tryz.zeroValue180
  t70 := Tryz.underlying184
  a70 := Tryz.isAgg184
  z70 := Tryz.sizeOf184
  v70 := Tryz.zeroValue184
  t76 := Tryz.underlying192
  a76 := Tryz.isAgg192
  z76 := Tryz.sizeOf192
  v76 := Tryz.zeroValue192
  t77 := Tryz.underlying193
  a77 := Tryz.isAgg193
  z77 := Tryz.sizeOf193
  v77 := Tryz.zeroValue193 }
end Go.Proofs

set_option linter.unusedVariables false
namespace Go.Proofs.YtdgnhfhaaghoaaaGreatDoor
open Go.RowKit

theorem flat_at {α : Type} {sz : Nat} : ∀ {css : List (List α)}, (∀ cs ∈ css, cs.length = sz) → ∀ {k : Nat} {cs : List α}, css[k]? = some cs → ∀ {r : Nat} {u : α}, cs[r]? = some u → css.flatten[k * sz + r]? = some u
  | [], _, _, _, h, _, _, _ => by simp at h
  | c0 :: css, hl, 0, cs, h, r, u, hr => by
    simp at h
    subst h
    rw [List.flatten_cons, Nat.zero_mul, Nat.zero_add, List.getElem?_append_left (List.getElem?_eq_some_iff.1 hr).1]
    exact hr
  | c0 :: css, hl, k + 1, cs, h, r, u, hr => by
    have h0 : c0.length = sz := hl c0 (by simp)
    have := flat_at (css := css) (fun cs h => hl cs (List.mem_cons_of_mem _ h)) (by simpa using h) hr
    rw [List.flatten_cons, List.getElem?_append_right (by rw [h0, Nat.succ_mul]; omega), h0]
    rw [show (k + 1) * sz + r - sz = k * sz + r by rw [Nat.succ_mul]; omega]
    exact this

/-- A slice of elements of sz cells each, read as l by R. -/
def RSl {α : Type} (R : World → List Value → α → Prop) (sz : Nat) (w : World) (v : Value) (l : List α) : Prop :=
  ∃ (A : Option Addr) (c : Nat) (css : List (List Value)), v = .slice A l.length c ∧ l.length ≤ maxLen ∧ css.length = l.length ∧ (∀ cs ∈ css, cs.length = sz) ∧ Cells w A css.flatten ∧
    ∀ (i : Nat) cs x, css[i]? = some cs → l[i]? = some x → R w cs x

/-- R reads memory alone, and what was there stays. -/
def KeepR {α : Type} (R : World → List Value → α → Prop) : Prop := ∀ (w w' : World) cs x, R w cs x → Below w.heap.size w w' → R w' cs x

section
variable {α : Type} {R : World → List Value → α → Prop} {sz : Nat} {w w' : World} {v : Value} {l : List α}

theorem RSl.below (h : RSl R sz w v l) (hR : KeepR R) (hb : Below w.heap.size w w') : RSl R sz w' v l := by
  obtain ⟨A, c, css, e, hm, hl, hsz, hc, hr⟩ := h
  exact ⟨A, c, css, e, hm, hl, hsz, hc.below hb, fun i cs x h1 h2 => hR _ _ _ _ (hr i cs x h1 h2) hb⟩

/-- The address of the slice, and of each element its cells. -/
theorem RSl.at_ (h : RSl R sz w v l) (h0 : 0 < sz) {k : Nat} {x : α} (hk : l[k]? = some x) :
    ∃ b o c cs, v = .slice (some ⟨b, o, none⟩) l.length c ∧ cs.length = sz ∧ R w cs x ∧ ∀ r u, cs[r]? = some u → w.cell? ⟨b, o + (k * sz + r), none⟩ = some u := by
  obtain ⟨A, c, css, e, hm, hl, hsz, hc, hr⟩ := h
  have hkl := (List.getElem?_eq_some_iff.1 hk).1
  have hcs : css[k]? = some (css[k]'(by omega)) := List.getElem?_eq_getElem (by omega)
  have hlen := hsz _ (List.getElem_mem (l := css) (n := k) (by omega))
  have h1 := flat_at hsz hcs (List.getElem?_eq_getElem (l := css[k]'(by omega)) (i := 0) (by omega))
  obtain ⟨b, o, rfl, hcc⟩ := hc.at_ (List.getElem?_eq_some_iff.1 h1).1
  exact ⟨b, o, c, _, e, hlen, hr k _ x hcs hk, fun r u hu => hcc _ _ (flat_at hsz hcs hu)⟩

theorem RSl.form (h : RSl R sz w v l) : ∃ A c, v = .slice A l.length c ∧ l.length ≤ maxLen := by
  obtain ⟨A, c, css, e, hm, _⟩ := h
  exact ⟨A, c, e, hm⟩
end

/-- The cells cs written into a list from i on. -/
def setL {α : Type} : List α → Nat → List α → List α
  | l, _, [] => l
  | l, i, c :: cs => setL (l.set i c) (i + 1) cs

theorem setL_mid {α : Type} : ∀ (cs P z R : List α), z.length = cs.length → setL (P ++ (z ++ R)) P.length cs = P ++ (cs ++ R)
  | [], P, z, R, h => by
    have : z = [] := List.eq_nil_of_length_eq_zero h
    subst this
    rfl
  | c :: cs, P, [], R, h => by simp at h
  | c :: cs, P, x :: z, R, h => by
    rw [setL, List.set_append_right _ _ (Nat.le_refl _), Nat.sub_self]
    have e1 : P ++ (x :: z ++ R).set 0 c = (P ++ [c]) ++ (z ++ R) := by simp
    have e2 : P.length + 1 = (P ++ [c]).length := by simp
    rw [e1, e2, setL_mid cs (P ++ [c]) z R (by simpa using h)]
    simp

theorem owns_setCells {base : Nat} {e : TypeId} {size n cap g : Nat} : ∀ (cs : List Value) (w : World) (i : Nat) (xs : List Value), w.ownsRow base e size (.slice (some ⟨g, 0, none⟩) n cap) n xs →
    (w.setCells g i cs).ownsRow base e size (.slice (some ⟨g, 0, none⟩) n cap) n (setL xs i cs)
  | [], w, i, xs, h => h
  | c :: cs, w, i, xs, h => owns_setCells cs _ (i + 1) _ (h.stored i c).1

theorem kept_setCells {S : Nat → Prop} {g : Nat} (hg : S g) : ∀ (cs : List Value) (a w : World) (i : Nat), Kept S a w → Kept S a (w.setCells g i cs)
  | [], _, _, _, h => h
  | c :: cs, a, w, i, h => kept_setCells hg cs a _ (i + 1) (h.setCell (p := ⟨g, i, none⟩) hg c)

/-- O keeps: it is not touched by what turns elsewhere, and its blocks may be told more widely. -/
structure KeepO {α : Type} (O : World → (Nat → Prop) → List Value → α → Prop) : Prop where
  kept : ∀ (w w' : World) (S T : Nat → Prop) cs x, O w S cs x → Kept T w w' → (∀ b, S b → ¬ T b) → O w' S cs x
  mono : ∀ (w : World) (S T : Nat → Prop) cs x, O w S cs x → (∀ b, S b → T b) → O w T cs x

theorem KeepO.below {α : Type} {O : World → (Nat → Prop) → List Value → α → Prop} (hO : KeepO O) {w w' : World} {S : Nat → Prop} {cs : List Value} {x : α} {B : Nat} (h : O w S cs x) (hb : Below B w w') (hB : w.heap.size ≤ B) : O w' S cs x :=
  hO.kept w w' S (fun _ => False) cs x h ⟨hb.os, hb.tape, hb.output, hb.size, fun b hb' _ => hb.block b (by omega)⟩ (fun _ _ k => k)

/-- A slice of elements of sz cells each, that may be written; no two elements share a block, and none the slice's own. -/
def OSl {α : Type} (O : World → (Nat → Prop) → List Value → α → Prop) (sz : Nat) (w : World) (S : Nat → Prop) (v : Value) (l : List α) : Prop :=
  ∃ (css : List (List Value)) (S0 : Nat → Prop) (T : Nat → Nat → Prop), Own w S0 v l.length css.flatten ∧ css.length = l.length ∧ (∀ cs ∈ css, cs.length = sz) ∧
    (∀ (i : Nat) cs x, css[i]? = some cs → l[i]? = some x → O w (T i) cs x) ∧ (∀ b, S0 b → S b) ∧ (∀ i b, T i b → S b ∧ ¬ S0 b) ∧ (∀ i j b, T i b → T j b → i = j)

section
variable {α : Type} {O : World → (Nat → Prop) → List Value → α → Prop} {R : World → List Value → α → Prop} {sz : Nat} {w w' : World} {S T : Nat → Prop} {v : Value} {l : List α}
theorem OSl.kept (hO : KeepO O) (h : OSl O sz w S v l) (hk : Kept T w w') (hd : ∀ b, S b → ¬ T b) : OSl O sz w' S v l := by
  obtain ⟨css, S0, U, h0, hl, hsz, hi, a1, a2, a3⟩ := h
  exact ⟨css, S0, U, h0.kept hk (fun b hb => hd b (a1 b hb)), hl, hsz, fun i cs x h1 h2 => hO.kept _ _ _ _ _ _ (hi i cs x h1 h2) hk (fun b hb => hd b (a2 i b hb).1), a1, a2, a3⟩
theorem OSl.mono (h : OSl O sz w S v l) (hs : ∀ b, S b → T b) : OSl O sz w T v l := by
  obtain ⟨css, S0, U, h0, hl, hsz, hi, a1, a2, a3⟩ := h
  exact ⟨css, S0, U, h0, hl, hsz, hi, fun b hb => hs b (a1 b hb), fun i b hb => ⟨hs b (a2 i b hb).1, (a2 i b hb).2⟩, a3⟩
theorem OSl.below (hO : KeepO O) {B : Nat} (h : OSl O sz w S v l) (hb : Below B w w') (hB : w.heap.size ≤ B) : OSl O sz w' S v l :=
  h.kept hO (T := fun _ => False) ⟨hb.os, hb.tape, hb.output, hb.size, fun b hb' _ => hb.block b (by omega)⟩ (fun _ _ k => k)
theorem OSl.form (h : OSl O sz w S v l) : ∃ A c, v = .slice A l.length c := by
  obtain ⟨css, S0, U, ⟨A, c, e, _⟩, _⟩ := h
  exact ⟨A, c, e⟩
end

end Go.Proofs.YtdgnhfhaaghoaaaGreatDoor
