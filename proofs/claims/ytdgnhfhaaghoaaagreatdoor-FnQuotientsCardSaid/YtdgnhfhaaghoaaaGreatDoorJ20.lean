/- A row pushed behind a table in a box, three numbers pushed behind a row in a box: what holds while the operations come up. -/
import Derived.Test.YtdgnhfhaaghoaaaGreatDoorProg
import Derived.Test.YtdgnhfhaaghoaaaGreatDoorJ5
import Derived.Test.YtdgnhfhaaghoaaaGreatDoorJ3
import Derived.Test.YtdgnhfhaaghoaaaGreatDoorJ19
import Derived.Test.YtdgnhfhaaghoaaaGreatDoorJ11
set_option linter.unusedSimpArgs false
set_option linter.unusedVariables false
namespace Go.Proofs.YtdgnhfhaaghoaaaGreatDoor
open Go.RowKit

theorem owns_type' {w : World} {B : Nat} {e : TypeId} {s : Nat} {v : Value} {n : Nat} {xs : List Value} {b : Nat} {cs : Array Value} {t : TypeId} (h : w.ownsRow B e s v n xs) (hb : w.heap[b]? = some (.cells cs t)) (hne : e ≠ t) : v.ownBlock ≠ some b := by
  intro hv
  obtain ⟨cs', h'⟩ := owns_cells h hv
  rw [hb] at h'
  injection h' with h'
  injection h' with _ h' _
  exact hne h'.symm

/-- append, as one operation of a region: what has grown. -/
theorem step_appG {P : Program} {Y} {o : Oper} {a : Act} {w : World} {K : Act → World → Prop} {Q : Exit → Act → World → Prop} {E : Prop} {t e : TypeId} {size bytes : Nat} (el : El P t e size bytes) (hgd : o.guard = none) (s x : Operand)
    (ho : o.op = .call { callee := .builtin .append, args := #[s, x], argTypes := #[t, t] })
    (base : Nat) (v : Value) (n : Nat) (xs : List Value) (hs : a.eval s = v) (hown : w.ownsRow base e size v n xs)
    (ad : Addr) (m c : Nat) (news : List Value) (hx : a.eval x = .slice (some ad) m c) (hl : news.length = m * size) (hnews : ∀ j u, news[j]? = some u → w.cell? (ad.add j) = some u) (h1 : ∀ u ∈ news, u.oneCell' = true)
    (h63 : n + m ≤ maxLen) (hbytes : (n + m) * bytes ≤ 140737488355328) (hbase : base ≤ w.heap.size)
    (h : ∀ v' w', w'.ownsRow base e size v' (n + m) (xs ++ news) → w.grownBy w' v.ownBlock → K (a.put o.dst v') w') : if Region.wanted o Y = true then Oper.wp P o a w K Q else E := by
  obtain ⟨ht, i, z, hi, hz, hsz, hb, hzs, h0⟩ := el
  rw [if_pos (by simp [Region.wanted, hgd])]
  exact wp_append_own w s x t ho base e i z size bytes ht hi hz hsz hb hzs h0 v n xs hs hown ad m c news hx hl hnews h1 h63 hbytes hbase (fun v' w' h2 h3 _ => h v' w' h2 h3)

theorem TRows.grownT {w w' : World} {B B2 : Nat} {u t : Value} {l : List (List Int)} {e : TypeId} {s n : Nat} {xs : List Value} (h : TRows w B u l) (ht : w.ownsRow B2 e s t n xs) (hg : w.grownBy w' t.ownBlock) (h1 : 30 ≠ e) (h2 : 3 ≠ e) : TRows w' B u l := by
  obtain ⟨vs, a, b, c⟩ := h
  exact ⟨vs, owns_grown' a hg (fun g hg' e' => owns_apart' a ht h1 g hg' e'), fun i v xs x y => owns_grown' (b i v xs x y) hg (fun g hg' e' => owns_apart' (b i v xs x y) ht h2 g hg' e'), c⟩

/-- While a row is pushed behind the table of the box P: the row (b7), the slice of one (b8), the table (b9), the box (b11). -/
structure SQ (wr : World) (B P : Nat) (u tS : Value) (n : Nat) (cs : List Value) (rows : List (List Int)) (x : List Int) (b7 b8 b9 b11 : Bool) (r : Value) (bs : Nat) (v : Value) (W : World) : Prop where
  o1 : b8 = true → b7 = true
  o2 : b9 = true → b8 = true
  o3 : b11 = true → b9 = true
  z : Below B wr W
  s : W.ownsRow B 103 3 tS n cs
  hP : b11 = false → W.heap[P]? = some (.cells #[u, tS] 27)
  hQ : b11 = true → W.heap[P]? = some (.cells #[v, tS] 27)
  hT : b9 = false → TB W B wr.heap.size u rows
  h7 : b7 = true → b9 = false → W.ownsRow wr.heap.size 3 1 r x.length (ints x)
  h8 : b8 = true → b9 = false → W.heap[bs]? = some (.cells #[r] 30)
  h9 : b9 = true → TRows W B v (rows ++ [x])
section
variable {wr W W' : World} {B P n : Nat} {u tS : Value} {cs : List Value} {rows : List (List Int)} {x : List Int} {b7 b8 b9 b11 : Bool} {r : Value} {bs : Nat} {v : Value}
theorem SQ.start (hT : TRows wr B u rows) (hS : wr.ownsRow B 103 3 tS n cs) (hP : wr.heap[P]? = some (.cells #[u, tS] 27)) (r : Value) (bs : Nat) (v : Value) : SQ wr B P u tS n cs rows x false false false false r bs v wr.drew :=
  { o1 := fun h => (nomatch h), o2 := fun h => (nomatch h), o3 := fun h => (nomatch h), z := (Below.refl _ _).drew, s := hS, hP := fun _ => hP, hQ := fun h => (nomatch h), hT := fun _ => hT.tb, h7 := fun h => (nomatch h), h8 := fun h => (nomatch h), h9 := fun h => (nomatch h) }
theorem SQ.q8 (h : SQ wr B P u tS n cs rows x b7 false b9 b11 r bs v W) : b9 = false ∧ b11 = false := by
  have e9 : b9 = false := by cases b9; rfl; exact absurd (h.o2 rfl) (by simp)
  exact ⟨e9, by cases b11; rfl; exact absurd (h.o3 rfl) (by simp [e9])⟩
theorem SQ.called {r' : Value} (h : SQ wr B P u tS n cs rows x false b8 b9 b11 r bs v W) (hB : B ≤ wr.heap.size) (hb : Below W.heap.size W W') (hr : W'.ownsRow W.heap.size 3 1 r' x.length (ints x)) : SQ wr B P u tS n cs rows x true b8 b9 b11 r' bs v W' := by
  have e8 : b8 = false := by cases b8; rfl; exact absurd (h.o1 rfl) (by simp)
  subst e8
  obtain ⟨rfl, rfl⟩ := h.q8
  have hsz := h.z.size
  exact { o1 := fun h => (nomatch h), o2 := fun h => (nomatch h), o3 := fun h => (nomatch h), z := h.z.trans (hb.mono (by omega)), s := owns_below h.s hb (Nat.le_refl _), hP := fun _ => (hb.block _ (Array.getElem?_eq_some_iff.1 (h.hP rfl)).1).trans (h.hP rfl), hQ := fun h => (nomatch h), hT := fun _ => (h.hT rfl).below hb, h7 := fun _ _ => owns_mono hr hsz, h8 := fun h => (nomatch h), h9 := fun h => (nomatch h) }
theorem SQ.build (h : SQ wr B P u tS n cs rows x true false b9 b11 r bs v W) (hB : B ≤ wr.heap.size) : SQ wr B P u tS n cs rows x true true b9 b11 r W.heap.size v (W.alloc (.cells #[r] 30)) := by
  obtain ⟨rfl, rfl⟩ := h.q8
  have hsz := h.z.size
  have hb : Below W.heap.size W (W.alloc (.cells #[r] 30)) := (Below.refl _ _).alloc (Nat.le_refl _) _
  exact { o1 := fun _ => rfl, o2 := fun h => (nomatch h), o3 := fun h => (nomatch h), z := h.z.trans (hb.mono (by omega)), s := owns_below h.s hb (Nat.le_refl _), hP := fun _ => (hb.block _ (Array.getElem?_eq_some_iff.1 (h.hP rfl)).1).trans (h.hP rfl), hQ := fun h => (nomatch h), hT := fun _ => (h.hT rfl).below hb, h7 := fun _ _ => owns_below (h.h7 rfl rfl) hb (Nat.le_refl _), h8 := fun _ _ => heap_alloc_new _ _, h9 := fun h => (nomatch h) }
theorem SQ.app {v' : Value} {vs : List Value} (h : SQ wr B P u tS n cs rows x b7 true false b11 r bs v W) (hB : B ≤ wr.heap.size) (a1 : W.ownsRow B 30 1 u rows.length vs) (a2 : ∀ (i : Nat) v xs, vs[i]? = some v → rows[i]? = some xs → W.ownsRow B 3 1 v xs.length (ints xs))
    (a3 : ∀ (i j : Nat) v v' b, i < j → vs[i]? = some v → vs[j]? = some v' → v.ownBlock = some b → v'.ownBlock ≠ some b) (a4 : ∀ (i : Nat) v b, vs[i]? = some v → v.ownBlock = some b → b < wr.heap.size)
    (ho : W'.ownsRow B 30 1 v' (rows.length + 1) (vs ++ [r])) (hg : W.grownBy W' u.ownBlock) : SQ wr B P u tS n cs rows x b7 true true b11 r bs v' W' := by
  have e11 : b11 = false := by cases b11; rfl; exact absurd (h.o3 rfl) (by simp)
  have e7 := h.o1 rfl
  subst e11 e7
  have hr := h.h7 rfl rfl
  have hsz := h.z.size
  have hj := TRows.join (l2 := [x]) (vs2 := [r]) a1 a2 a3 a4 rfl (fun i v xs' x y => by
    match i, x, y with
    | 0, x, y =>
      simp at x y
      subst x
      subst y
      exact hr) (fun i j v v' q hij x y => by
    have := (List.getElem?_eq_some_iff.1 y).1
    simp at this
    omega) hB ho hg
  exact { o1 := fun _ => rfl, o2 := fun _ => rfl, o3 := fun h => (nomatch h), z := h.z.grown hg (by omega) (fun q hq => (a1.lt q hq).1), s := owns_grown' h.s hg (fun g hg' e' => owns_apart' h.s a1 (by decide) g hg' e'), hP := fun _ => (hg.block P (Array.getElem?_eq_some_iff.1 (h.hP rfl)).1 (fun e => owns_type' a1 (h.hP rfl) (by decide) e.symm)).trans (h.hP rfl), hQ := fun h => (nomatch h), hT := fun h => (nomatch h), h7 := fun _ h => (nomatch h), h8 := fun _ h => (nomatch h), h9 := fun _ => hj }
theorem SQ.store (h : SQ wr B P u tS n cs rows x b7 b8 true false r bs v W) (hBP : B ≤ P) : SQ wr B P u tS n cs rows x b7 b8 true true r bs v (W.setCell ⟨P, 0, none⟩ v) := by
  have hq := h.hP rfl
  have hk : ∀ k, k < W.heap.size → k ≠ P → (W.setCell ⟨P, 0, none⟩ v).heap[k]? = W.heap[k]? := fun k _ h2 => heap_setCell_other _ _ _ _ h2
  exact { o1 := h.o1, o2 := h.o2, o3 := fun _ => rfl, z := h.z.setCell (p := ⟨P, 0, none⟩) hBP _, s := owns_but h.s hk hq (by decide), hP := fun h => (nomatch h), hQ := fun _ => heap_setCell_same W P 0 _ _ v hq, hT := fun h => (nomatch h), h7 := fun _ h => (nomatch h), h8 := fun _ h => (nomatch h), h9 := fun _ => (h.h9 rfl).but hk hq (by decide) (by decide) }
end

/-- While three numbers are pushed behind the row of the box P: the slice of one (b13), the row (b14), the box (b16). -/
structure EQ3 (wr : World) (B P : Nat) (u t : Value) (rows : List (List Int)) (l : List I3) (y : I3) (b13 b14 b16 : Bool) (bs : Nat) (v : Value) (W : World) : Prop where
  o2 : b14 = true → b13 = true
  o3 : b16 = true → b14 = true
  z : Below B wr W
  T : TRows W B u rows
  hP : b16 = false → W.heap[P]? = some (.cells #[u, t] 27)
  hQ : b16 = true → W.heap[P]? = some (.cells #[u, v] 27)
  zz : b14 = false → Below wr.heap.size wr W
  h1 : b14 = false → W.ownsRow B 103 3 t l.length (l.flatMap tri)
  h13 : b13 = true → b14 = false → W.heap[bs]? = some (.cells #[.int .i64 y.1, .int .i64 y.2.1, .int .i64 y.2.2] 103)
  h14 : b14 = true → W.ownsRow B 103 3 v (l.length + 1) (l.flatMap tri ++ tri y)
section
variable {wr W W' : World} {B P : Nat} {u t : Value} {rows : List (List Int)} {l : List I3} {y : I3} {b13 b14 b16 : Bool} {bs : Nat} {v : Value}
theorem EQ3.start (hT : TRows wr B u rows) (h1 : wr.ownsRow B 103 3 t l.length (l.flatMap tri)) (hP : wr.heap[P]? = some (.cells #[u, t] 27)) (bs : Nat) (v : Value) : EQ3 wr B P u t rows l y false false false bs v wr.drew :=
  { o2 := fun h => (nomatch h), o3 := fun h => (nomatch h), z := (Below.refl _ _).drew, zz := fun _ => (Below.refl _ _).drew, T := hT, hP := fun _ => hP, hQ := fun h => (nomatch h), h1 := fun _ => h1, h13 := fun h => (nomatch h), h14 := fun h => (nomatch h) }
theorem EQ3.lay (h : EQ3 wr B P u t rows l y b13 b14 b16 bs v W) (hB : B ≤ wr.heap.size) (hb : Below W.heap.size W W') : EQ3 wr B P u t rows l y b13 b14 b16 bs v W' := by
  have hsz := h.z.size
  exact { o2 := h.o2, o3 := h.o3, z := h.z.trans (hb.mono (by omega)), zz := fun e => (h.zz e).trans (hb.mono hsz), T := h.T.below hb (Nat.le_refl _), hP := fun e => (hb.block _ (Array.getElem?_eq_some_iff.1 (h.hP e)).1).trans (h.hP e), hQ := fun e => (hb.block _ (Array.getElem?_eq_some_iff.1 (h.hQ e)).1).trans (h.hQ e), h1 := fun e => owns_below (h.h1 e) hb (Nat.le_refl _), h13 := fun e1 e2 => (hb.block _ (Array.getElem?_eq_some_iff.1 (h.h13 e1 e2)).1).trans (h.h13 e1 e2), h14 := fun e => owns_below (h.h14 e) hb (Nat.le_refl _) }
theorem EQ3.build (h : EQ3 wr B P u t rows l y false b14 b16 bs v W) (hB : B ≤ wr.heap.size) : EQ3 wr B P u t rows l y true b14 b16 W.heap.size v (W.alloc (.cells #[.int .i64 y.1, .int .i64 y.2.1, .int .i64 y.2.2] 103)) := by
  have hb : Below W.heap.size W (W.alloc (.cells #[.int .i64 y.1, .int .i64 y.2.1, .int .i64 y.2.2] 103)) := (Below.refl _ _).alloc (Nat.le_refl _) _
  exact { h.lay hB hb with o2 := fun _ => rfl, h13 := fun _ _ => heap_alloc_new _ _ }
theorem EQ3.app {v' : Value} (h : EQ3 wr B P u t rows l y true false b16 bs v W) (hB : B ≤ wr.heap.size) (ho : W'.ownsRow B 103 3 v' (l.length + 1) (l.flatMap tri ++ tri y)) (hg : W.grownBy W' t.ownBlock) : EQ3 wr B P u t rows l y true true b16 bs v' W' := by
  have e16 : b16 = false := by cases b16; rfl; exact absurd (h.o3 rfl) (by simp)
  subst e16
  have hsz := h.z.size
  have a1 := h.h1 rfl
  exact { o2 := fun _ => rfl, o3 := fun h => (nomatch h), z := h.z.grown hg (by omega) (fun q hq => (a1.lt q hq).1), zz := fun h => (nomatch h), T := h.T.grownT a1 hg (by decide) (by decide), hP := fun _ => (hg.block P (Array.getElem?_eq_some_iff.1 (h.hP rfl)).1 (fun e => owns_type' a1 (h.hP rfl) (by decide) e.symm)).trans (h.hP rfl), hQ := fun h => (nomatch h), h1 := fun h => (nomatch h), h13 := fun _ h => (nomatch h), h14 := fun _ => ho }
theorem EQ3.store (h : EQ3 wr B P u t rows l y b13 true false bs v W) (hBP : B ≤ P) : EQ3 wr B P u t rows l y b13 true true bs v (W.setCell ⟨P, 1, none⟩ v) := by
  have hq := h.hP rfl
  have hk : ∀ k, k < W.heap.size → k ≠ P → (W.setCell ⟨P, 1, none⟩ v).heap[k]? = W.heap[k]? := fun k _ h2 => heap_setCell_other _ _ _ _ h2
  exact { o2 := h.o2, o3 := fun _ => rfl, z := h.z.setCell (p := ⟨P, 1, none⟩) hBP _, zz := fun h => (nomatch h), T := h.T.but hk hq (by decide) (by decide), hP := fun h => (nomatch h), hQ := fun _ => heap_setCell_same W P 1 _ _ v hq, h1 := fun h => (nomatch h), h13 := fun _ h => (nomatch h), h14 := fun _ => owns_but (h.h14 rfl) hk hq (by decide) }
end

/-- While three numbers are put into the row of the box P: the call (b18), the box (b20). -/
structure PQ3 (wr : World) (B P : Nat) (u t : Value) (rows : List (List Int)) (l l' : List I3) (b18 b20 : Bool) (v : Value) (W : World) : Prop where
  o3 : b20 = true → b18 = true
  z : Below B wr W
  T : TRows W B u rows
  hP : b20 = false → W.heap[P]? = some (.cells #[u, t] 27)
  hQ : b20 = true → W.heap[P]? = some (.cells #[u, v] 27)
  zz : b18 = false → Below wr.heap.size wr W
  h1 : b18 = false → W.ownsRow B 103 3 t l.length (l.flatMap tri)
  h18 : b18 = true → W.ownsRow B 103 3 v l'.length (l'.flatMap tri)
section
variable {wr W W' : World} {B P : Nat} {u t : Value} {rows : List (List Int)} {l l' : List I3} {b18 b20 : Bool} {v : Value}
theorem PQ3.start (hT : TRows wr B u rows) (h1 : wr.ownsRow B 103 3 t l.length (l.flatMap tri)) (hP : wr.heap[P]? = some (.cells #[u, t] 27)) (v : Value) : PQ3 wr B P u t rows l l' false false v wr.drew :=
  { o3 := fun h => (nomatch h), z := (Below.refl _ _).drew, zz := fun _ => (Below.refl _ _).drew, T := hT, hP := fun _ => hP, hQ := fun h => (nomatch h), h1 := fun _ => h1, h18 := fun h => (nomatch h) }
theorem PQ3.called {v' : Value} (h : PQ3 wr B P u t rows l l' false b20 v W) (hB : B ≤ wr.heap.size) (hb : Below W.heap.size W W') (hr : W'.ownsRow B 103 3 v' l'.length (l'.flatMap tri)) : PQ3 wr B P u t rows l l' true b20 v' W' := by
  have e : b20 = false := by cases b20; rfl; exact absurd (h.o3 rfl) (by simp)
  subst e
  have hsz := h.z.size
  exact { o3 := fun h => (nomatch h), z := h.z.trans (hb.mono (by omega)), zz := fun h => (nomatch h), T := h.T.below hb (Nat.le_refl _), hP := fun e => (hb.block _ (Array.getElem?_eq_some_iff.1 (h.hP e)).1).trans (h.hP e), hQ := fun h => (nomatch h), h1 := fun h => (nomatch h), h18 := fun _ => hr }
theorem PQ3.store (h : PQ3 wr B P u t rows l l' true false v W) (hBP : B ≤ P) : PQ3 wr B P u t rows l l' true true v (W.setCell ⟨P, 1, none⟩ v) := by
  have hq := h.hP rfl
  have hk : ∀ k, k < W.heap.size → k ≠ P → (W.setCell ⟨P, 1, none⟩ v).heap[k]? = W.heap[k]? := fun k _ h2 => heap_setCell_other _ _ _ _ h2
  exact { o3 := fun _ => rfl, z := h.z.setCell (p := ⟨P, 1, none⟩) hBP _, zz := fun h => (nomatch h), T := h.T.but hk hq (by decide) (by decide), hP := fun h => (nomatch h), hQ := fun _ => heap_setCell_same W P 1 _ _ v hq, h1 := fun h => (nomatch h), h18 := fun _ => owns_but (h.h18 rfl) hk hq (by decide) }
end

set_option maxHeartbeats 1000000 in
/-- Where a number first lies in a slice. -/
theorem indexI_any (A : Option Addr) (c : Nat) (xs : List Int) (d : Int) (w : World) (hn : xs.length ≤ 16777216) (hA : Cells w A (ints xs)) :
    Calls Tryz.prog 88 #[.slice A xs.length c, .int .i64 d] w fun e w' => e = .returned (.int .i64 (idxR xs.length (fun k => xs.getD k 0 == d))) ∧ w = w' := by
  obtain ⟨p, hp⟩ : ∃ p : Nat → Bool, p = fun k => xs.getD k 0 == d := ⟨_, rfl⟩
  rw [← hp]
  have HP := Lib.hid (fun k => show p k = (xs.getD k 0 == d) from by rw [hp])
  clear hp
  go_enter Tryz.func88, Tryz.ntmps88
  go_wp2
  go_loop [8] (fun i => ∃ k : Nat, k ≤ xs.length ∧ i = .int .i64 k ∧ ∀ j, j < k → p j = false) (fun i => xs.length - (intOf i).toNat)
  case atStart => exact ⟨0, Nat.zero_le _, rfl, fun j hj => by omega⟩
  case round =>
    obtain ⟨k, hk, rfl, hall⟩ := hrel
    by_cases hlt : k < xs.length
    · obtain ⟨b, o, rfl, hc⟩ := hA.int hlt
      have c0 := hc k hlt
      have HALL := Lib.hid hall
      have hpk := HP.out k
      cases he : (xs.getD k 0 == d)
      · have HN := Lib.hid (none_next hall (hpk.trans he))
        clear hc hA hall hpk
        generalize xs.getD k 0 = y at *
        go_wp2_with fail
        go_round
        case rel => exact ⟨k + 1, by omega, by go_num, HN.out⟩
        case measure => simp [intOf]; omega
      · have HY := Lib.hid (idxR_some hlt hall (hpk.trans he))
        clear hc hA hall hpk
        generalize xs.getD k 0 = y at *
        have he2 : y = d := by simpa using he
        go_wp2_with fail
        go_ret
        exact ⟨by rw [HY.out]; rfl, rfl⟩
    · obtain rfl : k = xs.length := by omega
      have HF := Lib.hid (idxR_none hall)
      clear hall
      go_wp2_with fail
      go_ret
      exact ⟨by rw [HF.out]; rfl, rfl⟩

end Go.Proofs.YtdgnhfhaaghoaaaGreatDoor
