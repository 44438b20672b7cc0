/- Three numbers put to their place in an ascending list, once: the reference walked. A row pushed behind a table in a box, three numbers pushed behind a row in a box: what holds while the operations come up. -/
import Derived.Test.YtdgnhfhaaghoaaaGreatDoorProg
import Derived.Test.YtdgnhfhaaghoaaaGreatDoorJ14
import Derived.Test.YtdgnhfhaaghoaaaGreatDoorJ4
import Derived.Test.YtdgnhfhaaghoaaaGreatDoorJ8
import Derived.Test.YtdgnhfhaaghoaaaGreatDoorJ2
import Derived.Test.YtdgnhfhaaghoaaaGreatDoorJ15
import Derived.Test.YtdgnhfhaaghoaaaGreatDoorJ0
import Derived.Deep.RegionHeld3
import Derived.Test.YtdgnhfhaaghoaaaGreatDoorJ6
import Derived.Test.YtdgnhfhaaghoaaaGreatDoorJ12
set_option linter.unusedSimpArgs false
set_option linter.unusedVariables false
namespace Go.Proofs.YtdgnhfhaaghoaaaGreatDoor
open Go.RowKit Go.Sort

theorem twT_take {x : I3} : ∀ {l : List I3} {k : Nat}, (∀ j, j < k → ltT (l.getD j (0, 0, 0)) x = true) → k ≤ l.length → (k < l.length → ltT (l.getD k (0, 0, 0)) x = false) → l.takeWhile (fun y => ltT y x) = l.take k ∧ l.dropWhile (fun y => ltT y x) = l.drop k
  | [], k, _, hk, _ => by
    obtain rfl : k = 0 := by simpa using hk
    simp
  | y :: l, 0, _, _, h => by
    have h0 : ltT y x = false := by simpa using h (by simp)
    simp [List.takeWhile_cons, List.dropWhile_cons, h0]
  | y :: l, k + 1, hj, hk, h => by
    have h0 : ltT y x = true := by simpa using hj 0 (by omega)
    have ih := twT_take (x := x) (l := l) (k := k) (fun j hjk => by simpa using hj (j + 1) (by omega)) (by simpa using hk) (fun hl => by simpa using h (by simpa using hl))
    simp [List.takeWhile_cons, List.dropWhile_cons, h0, ih.1, ih.2]
/-- What l10Put makes of any list. -/
def putG (l : List I3) (x : I3) : List I3 := if (l.dropWhile fun y => ltT y x).head? = some x then l else l.takeWhile (fun y => ltT y x) ++ x :: l.dropWhile (fun y => ltT y x)
theorem putG_at {x : I3} {l : List I3} {k : Nat} (hj : ∀ j, j < k → ltT (l.getD j (0, 0, 0)) x = true) (hk : k ≤ l.length) (h : k < l.length → ltT (l.getD k (0, 0, 0)) x = false) :
    putG l x = if k < l.length ∧ l.getD k (0, 0, 0) = x then l else l.take k ++ x :: l.drop k := by
  obtain ⟨h1, h2⟩ := twT_take hj hk h
  unfold putG
  rw [h1, h2, List.head?_drop]
  by_cases hkl : k < l.length
  · have e : l.getD k (0, 0, 0) = l[k] := by simp [List.getD, hkl]
    rw [List.getElem?_eq_getElem hkl, e]
    simp [hkl]
  · rw [List.getElem?_eq_none (by omega), if_neg (by simp), if_neg (fun h => hkl h.1)]
theorem put_place (x : I3) : ∀ l : List I3, ∃ k, (∀ j, j < k → ltT (l.getD j (0, 0, 0)) x = true) ∧ k ≤ l.length ∧ (k < l.length → ltT (l.getD k (0, 0, 0)) x = false)
  | [] => ⟨0, fun j hj => by omega, Nat.le_refl _, fun h => by simp at h⟩
  | y :: l => by
    cases hy : ltT y x
    · exact ⟨0, fun j hj => by omega, Nat.zero_le _, fun _ => by simpa using hy⟩
    · obtain ⟨k, h1, h2, h3⟩ := put_place x l
      refine ⟨k + 1, fun j hj => ?_, by simpa using h2, fun h => by simpa using h3 (by simpa using h)⟩
      cases j with
      | zero => simpa using hy
      | succ j => simpa using h1 j (by omega)
theorem putG_len (l : List I3) (x : I3) : (putG l x).length ≤ l.length + 1 := by
  obtain ⟨k, h1, h2, h3⟩ := put_place x l
  rw [putG_at h1 h2 h3]
  split
  · omega
  · simp; omega

theorem triT_one (xs : List I3) : ∀ u ∈ xs.flatMap tri, u.oneCell' = true := by
  intro u hu
  rw [List.mem_flatMap] at hu
  obtain ⟨x, _, hx⟩ := hu
  simp [tri] at hx
  rcases hx with rfl | rfl | rfl <;> rfl
theorem triT_len (xs : List I3) : (xs.flatMap tri).length = xs.length * 3 := by
  induction xs with
  | nil => rfl
  | cons x xs ih => rw [List.flatMap_cons, List.length_append, ih, List.length_cons]; simp [tri]; omega
theorem triT_take (xs : List I3) (k : Nat) : (xs.take k).flatMap tri = (xs.flatMap tri).take (k * 3) := by
  induction xs generalizing k with
  | nil => simp
  | cons x xs ih =>
    cases k with
    | zero => simp
    | succ k =>
      have e1 : (tri x).take ((k + 1) * 3) = tri x := List.take_of_length_le (by show 3 ≤ (k + 1) * 3; omega)
      have e2 : (k + 1) * 3 - (tri x).length = k * 3 := by show (k + 1) * 3 - 3 = k * 3; omega
      rw [List.take_succ_cons, List.flatMap_cons, List.flatMap_cons, ih, List.take_append, e1, e2]
theorem triT_drop (xs : List I3) (k : Nat) : (xs.drop k).flatMap tri = (xs.flatMap tri).drop (k * 3) := by
  induction xs generalizing k with
  | nil => simp
  | cons x xs ih =>
    cases k with
    | zero => simp
    | succ k =>
      have e1 : (tri x).drop ((k + 1) * 3) = [] := List.drop_of_length_le (by show 3 ≤ (k + 1) * 3; omega)
      have e2 : (k + 1) * 3 - (tri x).length = k * 3 := by show (k + 1) * 3 - 3 = k * 3; omega
      rw [List.drop_succ_cons, List.flatMap_cons, ih, List.drop_append, e1, e2, List.nil_append]
theorem cellsT_take {w : World} {b : Nat} {l : List I3} (h : Cells w (some ⟨b, 0, none⟩) (l.flatMap tri)) (k : Nat) : ∀ j u, ((l.take k).flatMap tri)[j]? = some u → w.cell? ((⟨b, 0, none⟩ : Addr).add j) = some u := by
  intro j u hj
  rw [triT_take, List.getElem?_take] at hj
  split at hj
  · obtain ⟨b', o', e, hc⟩ := h j u hj
    cases e
    rw [Addr.add_lit]
    exact hc
  · cases hj
theorem cellsT_drop {w : World} {b : Nat} {l : List I3} (h : Cells w (some ⟨b, 0, none⟩) (l.flatMap tri)) (k : Nat) : ∀ j u, ((l.drop k).flatMap tri)[j]? = some u → w.cell? ((⟨b, k * 3, none⟩ : Addr).add j) = some u := by
  intro j u hj
  rw [triT_drop, List.getElem?_drop] at hj
  obtain ⟨b', o', e, hc⟩ := h _ u hj
  cases e
  rw [Addr.add_lit]
  rw [Nat.zero_add] at hc
  exact hc

/-- append of a slice that is read, as one operation of a region. -/
theorem step_app {P : Program} {Y} {o : Oper} {a : Act} {w : World} {K : Act → World → Prop} {Q : Exit → Act → World → Prop} {E : Prop} {t e : TypeId} {size bytes : Nat} (el : El P t e size bytes) (hgd : o.guard = none) (s x : Operand)
    (ho : o.op = .call { callee := .builtin .append, args := #[s, x], argTypes := #[t, t] })
    (base : Nat) (v : Value) (n : Nat) (xs : List Value) (hs : a.eval s = v) (hown : w.ownsRow base e size v n xs)
    (ad : Addr) (m c : Nat) (news : List Value) (hx : a.eval x = .slice (some ad) m c) (hl : news.length = m * size) (hnews : ∀ j u, news[j]? = some u → w.cell? (ad.add j) = some u) (h1 : ∀ u ∈ news, u.oneCell' = true)
    (h63 : n + m ≤ maxLen) (hbytes : (n + m) * bytes ≤ 140737488355328) (hbase : base ≤ w.heap.size)
    (h : ∀ v' w', w'.ownsRow base e size v' (n + m) (xs ++ news) → Kept (fun q => v.ownBlock = some q) w w' → K (a.put o.dst v') w') : if Region.wanted o Y = true then Oper.wp P o a w K Q else E := by
  obtain ⟨ht, i, z, hi, hz, hsz, hb, hzs, h0⟩ := el
  rw [if_pos (by simp [Region.wanted, hgd])]
  exact wp_append_own w s x t ho base e i z size bytes ht hi hz hsz hb hzs h0 v n xs hs hown ad m c news hx hl hnews h1 h63 hbytes hbase (fun v' w' h2 h3 _ => h v' w' h2 (kept_of_grown h3))

/-- The facts of the region that puts three numbers in: the empty row (b0), what stands before (b4), the row of one (b6), both (b7), all (b11). -/
structure QF (w : World) (xs zs : List I3) (x : I3) (b0 b4 b6 b7 b11 : Bool) (bb bs : Nat) (v1 v2 v3 : Value) (W : World) : Prop where
  o1 : b4 = true → b0 = true
  o2 : b7 = true → b4 = true ∧ b6 = true
  o3 : b11 = true → b7 = true
  z : Below w.heap.size w W
  h0 : b0 = true → b4 = false → W.ownsRow w.heap.size 103 3 (.slice (some ⟨bb, 0, none⟩) 0 0) 0 []
  h4 : b4 = true → b7 = false → W.ownsRow w.heap.size 103 3 v1 xs.length (xs.flatMap tri)
  h6 : b6 = true → b7 = false → W.ownsRow w.heap.size 103 3 (.slice (some ⟨bs, 0, none⟩) 1 1) 1 (tri x)
  n0 : b0 = true → b4 = false → b6 = true → bb ≠ bs
  h7 : b7 = true → b11 = false → W.ownsRow w.heap.size 103 3 v2 (xs.length + 1) (xs.flatMap tri ++ tri x)
  h11 : b11 = true → W.ownsRow w.heap.size 103 3 v3 (xs ++ x :: zs).length ((xs ++ x :: zs).flatMap tri)
section
variable {w W W' : World} {xs zs : List I3} {x : I3} {b0 b4 b6 b7 b11 : Bool} {bb bs : Nat} {v1 v2 v3 : Value}
theorem QF.start (bb bs : Nat) (v1 v2 v3 : Value) : QF w xs zs x false false false false false bb bs v1 v2 v3 w.drew :=
  { o1 := fun h => (nomatch h), o2 := fun h => (nomatch h), o3 := fun h => (nomatch h), z := (Below.refl _ _).drew, h0 := fun h => (nomatch h), h4 := fun h => (nomatch h), h6 := fun h => (nomatch h), n0 := fun h => (nomatch h), h7 := fun h => (nomatch h), h11 := fun h => (nomatch h) }
theorem ownsRow_lit3 {w : World} {g n : Nat} {e : TypeId} {xs : List Value} (h : w.heap[g]? = some (.cells xs.toArray e)) (hl : xs.length = n * 3) (hm : n ≤ maxLen) : w.ownsRow g e 3 (.slice (some ⟨g, 0, none⟩) n n) n xs :=
  ⟨by omega, .inr ⟨g, n, _, rfl, Nat.le_refl _, h, Nat.le_refl _, hm, by simp [hl], by rw [← hl, List.take_length]⟩⟩
theorem QF.quiet7 (h : QF w xs zs x false b4 b6 b7 b11 bb bs v1 v2 v3 W) : b4 = false ∧ b7 = false ∧ b11 = false := by
  have e4 : b4 = false := by cases b4; rfl; exact absurd (h.o1 rfl) (by simp)
  have e7 : b7 = false := by cases b7; rfl; exact absurd (h.o2 rfl).1 (by simp [e4])
  exact ⟨e4, e7, by cases b11; rfl; exact absurd (h.o3 rfl) (by simp [e7])⟩
theorem QF.quiet6 (h : QF w xs zs x b0 b4 false b7 b11 bb bs v1 v2 v3 W) : b7 = false ∧ b11 = false := by
  have e7 : b7 = false := by cases b7; rfl; exact absurd (h.o2 rfl).2 (by simp)
  exact ⟨e7, by cases b11; rfl; exact absurd (h.o3 rfl) (by simp [e7])⟩
theorem QF.nil (h : QF w xs zs x false b4 b6 b7 b11 bb bs v1 v2 v3 W) : QF w xs zs x true b4 b6 b7 b11 W.heap.size bs v1 v2 v3 (W.alloc (.cells #[] 103)) := by
  obtain ⟨rfl, rfl, rfl⟩ := h.quiet7
  have hb : Below W.heap.size W (W.alloc (.cells #[] 103)) := (Below.refl _ _).alloc (Nat.le_refl _) _
  exact { o1 := fun h => (nomatch h), o2 := fun h => (nomatch h), o3 := fun h => (nomatch h), z := h.z.trans (hb.mono h.z.size), h0 := fun _ _ => owns_mono (ownsRow_lit3 (n := 0) (xs := []) (heap_alloc_new _ _) rfl (by unfold maxLen; omega)) h.z.size, h4 := fun h => (nomatch h), h6 := fun h1 h2 => owns_below (h.h6 h1 h2) hb (Nat.le_refl _), n0 := fun _ _ h6 e => (by have := ((h.h6 h6 rfl).lt bs rfl).2; omega), h7 := fun h => (nomatch h), h11 := fun h => (nomatch h) }
theorem QF.one (h : QF w xs zs x b0 b4 false b7 b11 bb bs v1 v2 v3 W) : QF w xs zs x b0 b4 true b7 b11 bb W.heap.size v1 v2 v3 (W.alloc (.cells #[.int .i64 x.1, .int .i64 x.2.1, .int .i64 x.2.2] 103)) := by
  obtain ⟨rfl, rfl⟩ := h.quiet6
  have hb : Below W.heap.size W (W.alloc (.cells #[.int .i64 x.1, .int .i64 x.2.1, .int .i64 x.2.2] 103)) := (Below.refl _ _).alloc (Nat.le_refl _) _
  exact { o1 := h.o1, o2 := fun h => (nomatch h), o3 := fun h => (nomatch h), z := h.z.trans (hb.mono h.z.size), h0 := fun h1 h2 => owns_below (h.h0 h1 h2) hb (Nat.le_refl _), h4 := fun h1 h2 => owns_below (h.h4 h1 h2) hb (Nat.le_refl _), h6 := fun _ _ => owns_mono (ownsRow_lit3 (n := 1) (xs := tri x) (heap_alloc_new _ _) rfl (by unfold maxLen; omega)) h.z.size, n0 := fun h1 h2 _ e => (by have := ((h.h0 h1 h2).lt bb rfl).2; omega), h7 := fun h => (nomatch h), h11 := fun h => (nomatch h) }
theorem QF.app1 {v1' : Value} (h : QF w xs zs x true false b6 b7 b11 bb bs v1 v2 v3 W) (ho : W'.ownsRow w.heap.size 103 3 v1' (0 + xs.length) ([] ++ xs.flatMap tri)) (hk : Kept (fun q => (Value.slice (some ⟨bb, 0, none⟩) 0 0).ownBlock = some q) W W') : QF w xs zs x true true b6 b7 b11 bb bs v1' v2 v3 W' := by
  have e7 : b7 = false := by cases b7; rfl; exact absurd (h.o2 rfl).1 (by simp)
  have e11 : b11 = false := by cases b11; rfl; exact absurd (h.o3 rfl) (by simp [e7])
  subst e7 e11
  have hlt := h.h0 rfl rfl
  rw [Nat.zero_add, List.nil_append] at ho
  exact { o1 := fun _ => rfl, o2 := fun h => (nomatch h), o3 := fun h => (nomatch h), z := below_kept h.z hk (fun q hq => (hlt.lt q hq).1) h.z.size, h0 := fun _ h => (nomatch h), h4 := fun _ _ => ho, h6 := fun h1 h2 => owns_kept (h.h6 h1 h2) hk (fun g hg e => h.n0 rfl rfl h1 (by
    have e1 : bb = g := Option.some.inj e
    have e2 : bs = g := Option.some.inj hg
    omega)), n0 := fun _ h => (nomatch h), h7 := fun h => (nomatch h), h11 := fun h => (nomatch h) }
theorem QF.app2 {v2' : Value} (h : QF w xs zs x b0 true true false b11 bb bs v1 v2 v3 W) (ho : W'.ownsRow w.heap.size 103 3 v2' (xs.length + 1) (xs.flatMap tri ++ tri x)) (hk : Kept (fun q => v1.ownBlock = some q) W W') : QF w xs zs x b0 true true true b11 bb bs v1 v2' v3 W' := by
  have e11 : b11 = false := by cases b11; rfl; exact absurd (h.o3 rfl) (by simp)
  subst e11
  have hlt := h.h4 rfl rfl
  exact { o1 := h.o1, o2 := fun _ => ⟨rfl, rfl⟩, o3 := fun h => (nomatch h), z := below_kept h.z hk (fun q hq => (hlt.lt q hq).1) h.z.size, h0 := fun _ h => (nomatch h), h4 := fun _ h => (nomatch h), h6 := fun _ h => (nomatch h), n0 := fun _ h => (nomatch h), h7 := fun _ _ => ho, h11 := fun h => (nomatch h) }
theorem QF.app3 {v3' : Value} (h : QF w xs zs x b0 b4 b6 true false bb bs v1 v2 v3 W) (ho : W'.ownsRow w.heap.size 103 3 v3' (xs.length + 1 + zs.length) (xs.flatMap tri ++ tri x ++ zs.flatMap tri)) (hk : Kept (fun q => v2.ownBlock = some q) W W') : QF w xs zs x b0 b4 b6 true true bb bs v1 v2 v3' W' := by
  have hlt := h.h7 rfl rfl
  have e1 : (xs ++ x :: zs).length = xs.length + 1 + zs.length := by simp; omega
  have e2 : (xs ++ x :: zs).flatMap tri = xs.flatMap tri ++ tri x ++ zs.flatMap tri := by simp
  obtain ⟨rfl, rfl⟩ := h.o2 rfl
  exact { o1 := h.o1, o2 := fun _ => ⟨rfl, rfl⟩, o3 := fun _ => rfl, z := below_kept h.z hk (fun q hq => (hlt.lt q hq).1) h.z.size, h0 := fun _ h => (nomatch h), h4 := fun _ h => (nomatch h), h6 := fun _ h => (nomatch h), n0 := fun _ h => (nomatch h), h7 := fun _ h => (nomatch h), h11 := fun _ => by rw [e1, e2]; exact ho }
end

end Go.Proofs.YtdgnhfhaaghoaaaGreatDoor

set_option linter.unusedVariables false
namespace Go.Proofs.YtdgnhfhaaghoaaaGreatDoor
open Go.RowKit

theorem owns_type' {w : World} {B : Nat} {e : TypeId} {s : Nat} {v : Value} {n : Nat} {xs : List Value} {b : Nat} {cs : Array Value} {t : TypeId} (h : w.ownsRow B e s v n xs) (hb : w.heap[b]? = some (.cells cs t)) (hne : e ≠ t) : v.ownBlock ≠ some b := by
  intro hv
  obtain ⟨cs', h'⟩ := owns_cells h hv
  rw [hb] at h'
  injection h' with h'
  injection h' with _ h' _
  exact hne h'.symm

/-- append, as one operation of a region: what has grown. -/
theorem step_appG {P : Program} {Y} {o : Oper} {a : Act} {w : World} {K : Act → World → Prop} {Q : Exit → Act → World → Prop} {E : Prop} {t e : TypeId} {size bytes : Nat} (el : El P t e size bytes) (hgd : o.guard = none) (s x : Operand)
    (ho : o.op = .call { callee := .builtin .append, args := #[s, x], argTypes := #[t, t] })
    (base : Nat) (v : Value) (n : Nat) (xs : List Value) (hs : a.eval s = v) (hown : w.ownsRow base e size v n xs)
    (ad : Addr) (m c : Nat) (news : List Value) (hx : a.eval x = .slice (some ad) m c) (hl : news.length = m * size) (hnews : ∀ j u, news[j]? = some u → w.cell? (ad.add j) = some u) (h1 : ∀ u ∈ news, u.oneCell' = true)
    (h63 : n + m ≤ maxLen) (hbytes : (n + m) * bytes ≤ 140737488355328) (hbase : base ≤ w.heap.size)
    (h : ∀ v' w', w'.ownsRow base e size v' (n + m) (xs ++ news) → w.grownBy w' v.ownBlock → K (a.put o.dst v') w') : if Region.wanted o Y = true then Oper.wp P o a w K Q else E := by
  obtain ⟨ht, i, z, hi, hz, hsz, hb, hzs, h0⟩ := el
  rw [if_pos (by simp [Region.wanted, hgd])]
  exact wp_append_own w s x t ho base e i z size bytes ht hi hz hsz hb hzs h0 v n xs hs hown ad m c news hx hl hnews h1 h63 hbytes hbase (fun v' w' h2 h3 _ => h v' w' h2 h3)

theorem TRows.grownT {w w' : World} {B B2 : Nat} {u t : Value} {l : List (List Int)} {e : TypeId} {s n : Nat} {xs : List Value} (h : TRows w B u l) (ht : w.ownsRow B2 e s t n xs) (hg : w.grownBy w' t.ownBlock) (h1 : 30 ≠ e) (h2 : 3 ≠ e) : TRows w' B u l := by
  obtain ⟨vs, a, b, c⟩ := h
  exact ⟨vs, owns_grown' a hg (fun g hg' e' => owns_apart' a ht h1 g hg' e'), fun i v xs x y => owns_grown' (b i v xs x y) hg (fun g hg' e' => owns_apart' (b i v xs x y) ht h2 g hg' e'), c⟩

section
variable {wr W W' : World} {B P n : Nat} {u tS : Value} {cs : List Value} {rows : List (List Int)} {x : List Int} {b7 b8 b9 b11 : Bool} {r : Value} {bs : Nat} {v : Value}
end

section
variable {wr W W' : World} {B P : Nat} {u t : Value} {rows : List (List Int)} {l : List I3} {y : I3} {b13 b14 b16 : Bool} {bs : Nat} {v : Value}
end

section
variable {wr W W' : World} {B P : Nat} {u t : Value} {rows : List (List Int)} {l l' : List I3} {b18 b20 : Bool} {v : Value}
end

end Go.Proofs.YtdgnhfhaaghoaaaGreatDoor
