/- Slices whose elements take several cells: how they are read. No program is in sight. -/
import Derived.Test.YtmnnbgciakigfaaDoorOwn
set_option linter.unusedVariables false
namespace Go.Proofs.YtmnnbgciakigfaaDoor
open Go.RowKit

/-- Two values of a type with a decided equality, compared. A plain definition: the walk shall not look into it. -/
def sameT {α : Type} [DecidableEq α] (x y : α) : Bool := decide (x = y)

theorem sameT_refl {α : Type} [DecidableEq α] (x : α) : sameT x x = true := by simp [sameT]
theorem sameT_ne {α : Type} [DecidableEq α] {x y : α} (h : x ≠ y) : sameT x y = false := by simp [sameT, h]
theorem sameT_len {α : Type} [DecidableEq α] {xs ys : List α} (h : xs.length ≠ ys.length) : sameT xs ys = false := sameT_ne fun e => h (by rw [e])
theorem sameT_at {α : Type} [DecidableEq α] {xs ys : List α} {k : Nat} {x y : α} (hx : xs[k]? = some x) (hy : ys[k]? = some y) (h : sameT x y = false) : sameT xs ys = false := by
  refine sameT_ne fun e => ?_
  subst e
  rw [hx] at hy
  injection hy with hy
  simp [sameT, hy] at h
theorem sameT_all {α : Type} [DecidableEq α] {xs ys : List α} (hl : xs.length = ys.length) (h : ∀ (j : Nat) x y, xs[j]? = some x → ys[j]? = some y → sameT x y = true) : sameT xs ys = true := by
  have e : xs = ys := by
    apply List.ext_getElem hl
    intro i h1 h2
    simpa [sameT] using h i _ _ (List.getElem?_eq_getElem h1) (List.getElem?_eq_getElem h2)
  rw [e]
  exact sameT_refl _

theorem flat_at {α : Type} {sz : Nat} : ∀ {css : List (List α)}, (∀ cs ∈ css, cs.length = sz) → ∀ {k : Nat} {cs : List α}, css[k]? = some cs → ∀ {r : Nat} {u : α}, cs[r]? = some u → css.flatten[k * sz + r]? = some u
  | [], _, _, _, h, _, _, _ => by simp at h
  | c0 :: css, hl, 0, cs, h, r, u, hr => by
    simp at h
    subst h
    rw [List.flatten_cons, Nat.zero_mul, Nat.zero_add, List.getElem?_append_left (List.getElem?_eq_some_iff.1 hr).1]
    exact hr
  | c0 :: css, hl, k + 1, cs, h, r, u, hr => by
    have h0 : c0.length = sz := hl c0 (by simp)
    have := flat_at (css := css) (fun cs h => hl cs (List.mem_cons_of_mem _ h)) (by simpa using h) hr
    rw [List.flatten_cons, List.getElem?_append_right (by rw [h0, Nat.succ_mul]; omega), h0]
    rw [show (k + 1) * sz + r - sz = k * sz + r by rw [Nat.succ_mul]; omega]
    exact this

theorem flat_length {α : Type} {sz : Nat} : ∀ {css : List (List α)}, (∀ cs ∈ css, cs.length = sz) → css.flatten.length = css.length * sz
  | [], _ => by simp
  | c0 :: css, hl => by
    rw [List.flatten_cons, List.length_append, hl c0 (by simp), flat_length (css := css) (fun cs h => hl cs (List.mem_cons_of_mem _ h)), List.length_cons, Nat.succ_mul]
    omega

/-- A slice of elements of sz cells each, read as l by R. -/
def RSl {α : Type} (R : World → List Value → α → Prop) (sz : Nat) (w : World) (v : Value) (l : List α) : Prop :=
  ∃ (A : Option Addr) (c : Nat) (css : List (List Value)), v = .slice A l.length c ∧ l.length ≤ maxLen ∧ css.length = l.length ∧ (∀ cs ∈ css, cs.length = sz) ∧ Cells w A css.flatten ∧
    ∀ (i : Nat) cs x, css[i]? = some cs → l[i]? = some x → R w cs x

/-- R reads memory alone, and what was there stays. -/
def KeepR {α : Type} (R : World → List Value → α → Prop) : Prop := ∀ (w w' : World) cs x, R w cs x → Below w.heap.size w w' → R w' cs x

section
variable {α : Type} {R : World → List Value → α → Prop} {sz : Nat} {w w' : World} {v : Value} {l : List α}

theorem RSl.below (h : RSl R sz w v l) (hR : KeepR R) (hb : Below w.heap.size w w') : RSl R sz w' v l := by
  obtain ⟨A, c, css, e, hm, hl, hsz, hc, hr⟩ := h
  exact ⟨A, c, css, e, hm, hl, hsz, hc.below hb, fun i cs x h1 h2 => hR _ _ _ _ (hr i cs x h1 h2) hb⟩

/-- The address of the slice, and of each element its cells. -/
theorem RSl.at_ (h : RSl R sz w v l) (h0 : 0 < sz) {k : Nat} {x : α} (hk : l[k]? = some x) :
    ∃ b o c cs, v = .slice (some ⟨b, o, none⟩) l.length c ∧ cs.length = sz ∧ R w cs x ∧ ∀ r u, cs[r]? = some u → w.cell? ⟨b, o + (k * sz + r), none⟩ = some u := by
  obtain ⟨A, c, css, e, hm, hl, hsz, hc, hr⟩ := h
  have hkl := (List.getElem?_eq_some_iff.1 hk).1
  have hcs : css[k]? = some (css[k]'(by omega)) := List.getElem?_eq_getElem (by omega)
  have hlen := hsz _ (List.getElem_mem (l := css) (n := k) (by omega))
  have h1 := flat_at hsz hcs (List.getElem?_eq_getElem (l := css[k]'(by omega)) (i := 0) (by omega))
  obtain ⟨b, o, rfl, hcc⟩ := hc.at_ (List.getElem?_eq_some_iff.1 h1).1
  exact ⟨b, o, c, _, e, hlen, hr k _ x hcs hk, fun r u hu => hcc _ _ (flat_at hsz hcs hu)⟩

theorem RSl.form (h : RSl R sz w v l) : ∃ A c, v = .slice A l.length c ∧ l.length ≤ maxLen := by
  obtain ⟨A, c, css, e, hm, _⟩ := h
  exact ⟨A, c, e, hm⟩
end

/-- The cells cs written into a list from i on. -/
def setL {α : Type} : List α → Nat → List α → List α
  | l, _, [] => l
  | l, i, c :: cs => setL (l.set i c) (i + 1) cs

theorem setL_mid {α : Type} : ∀ (cs P z R : List α), z.length = cs.length → setL (P ++ (z ++ R)) P.length cs = P ++ (cs ++ R)
  | [], P, z, R, h => by
    have : z = [] := List.eq_nil_of_length_eq_zero h
    subst this
    rfl
  | c :: cs, P, [], R, h => by simp at h
  | c :: cs, P, x :: z, R, h => by
    rw [setL, List.set_append_right _ _ (Nat.le_refl _), Nat.sub_self]
    have e1 : P ++ (x :: z ++ R).set 0 c = (P ++ [c]) ++ (z ++ R) := by simp
    have e2 : P.length + 1 = (P ++ [c]).length := by simp
    rw [e1, e2, setL_mid cs (P ++ [c]) z R (by simpa using h)]
    simp

theorem owns_setCells {base : Nat} {e : TypeId} {size n cap g : Nat} : ∀ (cs : List Value) (w : World) (i : Nat) (xs : List Value), w.ownsRow base e size (.slice (some ⟨g, 0, none⟩) n cap) n xs →
    (w.setCells g i cs).ownsRow base e size (.slice (some ⟨g, 0, none⟩) n cap) n (setL xs i cs)
  | [], w, i, xs, h => h
  | c :: cs, w, i, xs, h => owns_setCells cs _ (i + 1) _ (h.stored i c).1

theorem kept_setCells {S : Nat → Prop} {g : Nat} (hg : S g) : ∀ (cs : List Value) (a w : World) (i : Nat), Kept S a w → Kept S a (w.setCells g i cs)
  | [], _, _, _, h => h
  | c :: cs, a, w, i, h => kept_setCells hg cs a _ (i + 1) (h.setCell (p := ⟨g, i, none⟩) hg c)

/-- O keeps: it is not touched by what turns elsewhere, and its blocks may be told more widely. -/
structure KeepO {α : Type} (O : World → (Nat → Prop) → List Value → α → Prop) : Prop where
  kept : ∀ (w w' : World) (S T : Nat → Prop) cs x, O w S cs x → Kept T w w' → (∀ b, S b → ¬ T b) → O w' S cs x
  mono : ∀ (w : World) (S T : Nat → Prop) cs x, O w S cs x → (∀ b, S b → T b) → O w T cs x

theorem KeepO.below {α : Type} {O : World → (Nat → Prop) → List Value → α → Prop} (hO : KeepO O) {w w' : World} {S : Nat → Prop} {cs : List Value} {x : α} {B : Nat} (h : O w S cs x) (hb : Below B w w') (hB : w.heap.size ≤ B) : O w' S cs x :=
  hO.kept w w' S (fun _ => False) cs x h ⟨hb.os, hb.tape, hb.output, hb.size, fun b hb' _ => hb.block b (by omega)⟩ (fun _ _ k => k)

/-- A slice of elements of sz cells each, that may be written; no two elements share a block, and none the slice's own. -/
def OSl {α : Type} (O : World → (Nat → Prop) → List Value → α → Prop) (sz : Nat) (w : World) (S : Nat → Prop) (v : Value) (l : List α) : Prop :=
  ∃ (css : List (List Value)) (S0 : Nat → Prop) (T : Nat → Nat → Prop), Own w S0 v l.length css.flatten ∧ css.length = l.length ∧ (∀ cs ∈ css, cs.length = sz) ∧
    (∀ (i : Nat) cs x, css[i]? = some cs → l[i]? = some x → O w (T i) cs x) ∧ (∀ b, S0 b → S b) ∧ (∀ i b, T i b → S b ∧ ¬ S0 b) ∧ (∀ i j b, T i b → T j b → i = j)

section
variable {α : Type} {O : World → (Nat → Prop) → List Value → α → Prop} {R : World → List Value → α → Prop} {sz : Nat} {w w' : World} {S T : Nat → Prop} {v : Value} {l : List α}
theorem OSl.kept (hO : KeepO O) (h : OSl O sz w S v l) (hk : Kept T w w') (hd : ∀ b, S b → ¬ T b) : OSl O sz w' S v l := by
  obtain ⟨css, S0, U, h0, hl, hsz, hi, a1, a2, a3⟩ := h
  exact ⟨css, S0, U, h0.kept hk (fun b hb => hd b (a1 b hb)), hl, hsz, fun i cs x h1 h2 => hO.kept _ _ _ _ _ _ (hi i cs x h1 h2) hk (fun b hb => hd b (a2 i b hb).1), a1, a2, a3⟩
theorem OSl.mono (h : OSl O sz w S v l) (hs : ∀ b, S b → T b) : OSl O sz w T v l := by
  obtain ⟨css, S0, U, h0, hl, hsz, hi, a1, a2, a3⟩ := h
  exact ⟨css, S0, U, h0, hl, hsz, hi, fun b hb => hs b (a1 b hb), fun i b hb => ⟨hs b (a2 i b hb).1, (a2 i b hb).2⟩, a3⟩
theorem OSl.below (hO : KeepO O) {B : Nat} (h : OSl O sz w S v l) (hb : Below B w w') (hB : w.heap.size ≤ B) : OSl O sz w' S v l :=
  h.kept hO (T := fun _ => False) ⟨hb.os, hb.tape, hb.output, hb.size, fun b hb' _ => hb.block b (by omega)⟩ (fun _ _ k => k)
theorem OSl.form (h : OSl O sz w S v l) : ∃ A c, v = .slice A l.length c := by
  obtain ⟨css, S0, U, ⟨A, c, e, _⟩, _⟩ := h
  exact ⟨A, c, e⟩
theorem OSl.rsl (h : OSl O sz w S v l) (hn : l.length ≤ maxLen) (hOR : ∀ S cs x, x ∈ l → O w S cs x → R w cs x) : RSl R sz w v l := by
  obtain ⟨css, S0, U, h0, hl, hsz, hi, _⟩ := h
  obtain ⟨A, c, e, hc⟩ := h0.cells
  exact ⟨A, c, css, e, hn, hl, hsz, hc, fun i cs x h1 h2 => hOR _ _ _ (List.mem_of_getElem? h2) (hi i cs x h1 h2)⟩
end

theorem made_flat (z : Array Value) (n : Nat) : (madeCells z (n * z.size)).toList = (List.replicate n z.toList).flatten := by
  apply List.ext_getElem?
  intro j
  have hlen : ∀ cs ∈ List.replicate n z.toList, cs.length = z.size := by
    intro cs h
    rw [List.eq_of_mem_replicate h]
    simp
  by_cases hj : j < n * z.size
  · have hz : 0 < z.size := by
      rcases Nat.eq_zero_or_pos z.size with h | h
      · rw [h] at hj; simp at hj
      · exact h
    have hm : j % z.size < z.size := Nat.mod_lt _ hz
    have hd : j / z.size < n := by
      rw [Nat.div_lt_iff_lt_mul hz]
      exact hj
    have h1 : (List.replicate n z.toList)[j / z.size]? = some z.toList := by rw [List.getElem?_replicate, if_pos hd]
    have h2 := flat_at hlen h1 (r := j % z.size) (u := z.toList[j % z.size]'(by simpa using hm)) (List.getElem?_eq_getElem _)
    rw [show j / z.size * z.size + j % z.size = j by rw [Nat.mul_comm]; exact Nat.div_add_mod j z.size] at h2
    rw [h2]
    simp [madeCells, hj, hm]
  · have h1 : (madeCells z (n * z.size)).toList.length ≤ j := by simp [madeCells]; omega
    have h2 : ((List.replicate n z.toList).flatten).length ≤ j := by rw [flat_length hlen]; simp; omega
    rw [List.getElem?_eq_none h1, List.getElem?_eq_none h2]

/-- A round of a loop that fills a slice of aggregates: the element cs, made in this round, goes to place k. -/
theorem agg_step {α : Type} {O : World → (Nat → Prop) → List Value → α → Prop} (hO : KeepO O) {w0 wr w1 : World} {B0 B n k sz : Nat} {eo : TypeId} {z cs : List Value} {ds : List (List Value)} {l : List α} {x : α} {T : Nat → Nat → Prop} {Tn : Nat → Prop}
    (hown : wr.ownsRow B0 eo sz (.slice (some ⟨B, 0, none⟩) n n) n (ds.flatten ++ (List.replicate (n - k) z).flatten)) (hl : ds.length = k) (hk : k < n) (hz : z.length = sz) (hds : ∀ cs ∈ ds, cs.length = sz) (hcs : cs.length = sz) (hB0 : B0 ≤ B)
    (hbel : Below B0 w0 wr)
    (hrows : ∀ (i : Nat) cs x, ds[i]? = some cs → l[i]? = some x → O wr (T i) cs x) (hT : ∀ i b, T i b → i < k ∧ B < b ∧ b < wr.heap.size) (hdis : ∀ i j b, T i b → T j b → i = j)
    (hx : l[k]? = some x) (hn : O w1 Tn cs x) (hTn : ∀ b, Tn b → wr.heap.size ≤ b ∧ b < w1.heap.size) (hb1 : Below wr.heap.size wr w1) :
    (w1.setCells B (k * sz) cs).ownsRow B0 eo sz (.slice (some ⟨B, 0, none⟩) n n) n ((ds ++ [cs]).flatten ++ (List.replicate (n - (k + 1)) z).flatten) ∧ Below B0 w0 (w1.setCells B (k * sz) cs) ∧
    (∀ c ∈ ds ++ [cs], c.length = sz) ∧
    ∃ T' : Nat → Nat → Prop, (∀ (i : Nat) c y, (ds ++ [cs])[i]? = some c → l[i]? = some y → O (w1.setCells B (k * sz) cs) (T' i) c y) ∧ (∀ i b, T' i b → i < k + 1 ∧ B < b ∧ b < (w1.setCells B (k * sz) cs).heap.size) ∧ (∀ i j b, T' i b → T' j b → i = j) := by
  subst hl
  have hBw : B < wr.heap.size := (hown.lt B rfl).2
  have h1 := owns_below hown hb1 (Nat.le_refl _)
  have hfl := flat_length hds
  have hset : setL (ds.flatten ++ (List.replicate (n - ds.length) z).flatten) (ds.length * sz) cs = (ds ++ [cs]).flatten ++ (List.replicate (n - (ds.length + 1)) z).flatten := by
    rw [show n - ds.length = (n - (ds.length + 1)) + 1 by omega, List.replicate_succ, List.flatten_cons, ← hfl, setL_mid cs ds.flatten z _ (by rw [hz, hcs])]
    simp
  have hst := owns_setCells cs w1 (ds.length * sz) _ h1
  rw [hset] at hst
  have hkp : Kept (fun b => b = B) w1 (w1.setCells B (ds.length * sz) cs) := kept_setCells (S := fun b => b = B) rfl cs w1 w1 _ (Kept.refl _ _)
  have hbl : Below B0 w0 (w1.setCells B (ds.length * sz) cs) := (hbel.trans (hb1.mono (by omega))).trans (hkp.below (fun b hb => by omega) (by have := hb1.size; omega))
  refine ⟨hst, hbl, fun c hc => ?_, fun i b => (i < ds.length ∧ T i b) ∨ (i = ds.length ∧ Tn b), fun i c y h2 h3 => ?_, fun i b hb => ?_, fun i j b hi hj => ?_⟩
  · rcases List.mem_append.1 hc with h | h
    · exact hds c h
    · simp at h; rw [h]; exact hcs
  · rcases Nat.lt_trichotomy i ds.length with hi | hi | hi
    · rw [List.getElem?_append_left hi] at h2
      have := hO.below (hrows i c y h2 h3) hb1 (Nat.le_refl _)
      exact hO.mono _ _ _ _ _ (hO.kept _ _ _ _ _ _ this hkp (fun b hb e => by have := (hT i b hb).2.1; omega)) (fun b hb => .inl ⟨hi, hb⟩)
    · subst hi
      rw [List.getElem?_append_right (Nat.le_refl _), Nat.sub_self] at h2
      simp at h2
      subst h2
      rw [hx] at h3
      injection h3 with h3
      subst h3
      exact hO.mono _ _ _ _ _ (hO.kept _ _ _ _ _ _ hn hkp (fun b hb e => by have := (hTn b hb).1; omega)) (fun b hb => .inr ⟨rfl, hb⟩)
    · rw [List.getElem?_eq_none (by simp; omega)] at h2
      cases h2
  · have hs := hb1.size
    have hs2 := hkp.size
    rcases hb with ⟨hi, hb⟩ | ⟨rfl, hb⟩
    · have := hT i b hb; exact ⟨by omega, by omega, by omega⟩
    · have := hTn b hb; exact ⟨by omega, by omega, by omega⟩
  · rcases hi with ⟨hi, hb⟩ | ⟨hi, hb⟩ <;> rcases hj with ⟨hj, hb'⟩ | ⟨hj, hb'⟩
    · exact hdis i j b hb hb'
    · have a1 := (hT i b hb).2.2; have a2 := (hTn b hb').1; omega
    · have a1 := (hT j b hb').2.2; have a2 := (hTn b hb).1; omega
    · omega

/-- The loop has ended: the slice is filled. -/
theorem agg_done {α : Type} {O : World → (Nat → Prop) → List Value → α → Prop} {wr : World} {B0 B n sz : Nat} {eo : TypeId} {z : List Value} {ds : List (List Value)} {l : List α} {T : Nat → Nat → Prop}
    (hown : wr.ownsRow B0 eo sz (.slice (some ⟨B, 0, none⟩) n n) n (ds.flatten ++ (List.replicate (n - n) z).flatten)) (hl : ds.length = n) (hds : ∀ cs ∈ ds, cs.length = sz) (hn : l.length = n) (hB0 : B0 ≤ B)
    (hrows : ∀ (i : Nat) cs x, ds[i]? = some cs → l[i]? = some x → O wr (T i) cs x) (hT : ∀ i b, T i b → i < n ∧ B < b ∧ b < wr.heap.size) (hdis : ∀ i j b, T i b → T j b → i = j) :
    OSl O sz wr (fun b => B0 ≤ b ∧ b < wr.heap.size) (.slice (some ⟨B, 0, none⟩) l.length n) l := by
  subst hn
  rw [Nat.sub_self, List.replicate_zero, List.flatten_nil, List.append_nil] at hown
  have hlt := hown.lt B rfl
  refine ⟨ds, fun b => b = B, T, (Own.of_owns hown).mono (fun b hb => by simpa [Value.ownBlock] using hb.symm), hl, hds, hrows, fun b hb => by subst hb; exact ⟨hB0, hlt.2⟩, fun i b hb => ?_, hdis⟩
  have := hT i b hb
  exact ⟨⟨by omega, this.2.2⟩, by omega⟩

end Go.Proofs.YtmnnbgciakigfaaDoor
