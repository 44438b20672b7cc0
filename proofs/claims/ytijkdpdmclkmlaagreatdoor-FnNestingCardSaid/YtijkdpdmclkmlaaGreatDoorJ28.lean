/- Two bigraphs that are joined: what holds of the memory. No walk. -/
import Derived.Test.YtijkdpdmclkmlaaGreatDoorProg
import Derived.Test.YtijkdpdmclkmlaaGreatDoorJ27
set_option linter.unusedSimpArgs false
set_option linter.unusedVariables false
set_option maxRecDepth 100000
set_option maxHeartbeats 16000000
namespace Go.Proofs.YtijkdpdmclkmlaaGreatDoor
open Go.RowKit
def mvN (f : Int → Int) (x : Nod) : Nod := (x.1, f x.2.1, x.2.2)
/-- The joined bigraph while the nodes of the second one and its sites are put in. -/
def JX (L R : BX) (ro ed : Int) (os : List ByteArray) (s0 : List Int) (f : Int → Int) (nv sv : Value) (k : Nat) (ss : List Int) : BX :=
  ⟨ro, ed, nv, sv, L.ov, R.iv, L.ns ++ (R.ns.take k).map (mvN f), L.ls ++ R.ls.take k, s0 ++ ss, os, R.is⟩
/-- What holds: the rows of the joined one, those of the second one, and where they lie. -/
structure JN (wR : World) (w1s B P : Nat) (L R : BX) (ro ed : Int) (os : List ByteArray) (s0 : List Int) (f : Int → Int) (nv sv : Value) (k : Nat) (ss : List Int) (bx : Array Value) (W : World) : Prop where
  gt : GT wR B P bx (JX L R ro ed os s0 f nv sv k ss) W
  rn : NT W w1s R.nv R.sv R.ns R.ls
  bs : B ≤ w1s ∧ w1s ≤ wR.heap.size ∧ wR.heap.size ≤ P
  nb : ∀ q, nv.ownBlock = some q → q < w1s ∨ wR.heap.size ≤ q
  rb : ∀ q, R.nv.ownBlock = some q → w1s ≤ q ∧ q < wR.heap.size
  rl : ∀ (i : Nat) l q, R.ls[i]? = some l → l.ownBlock = some q → w1s ≤ q ∧ q < wR.heap.size
  ll : ∀ (i : Nat) l q, L.ls[i]? = some l → l.ownBlock = some q → q < w1s
  sb : ∀ q, sv.ownBlock = some q → wR.heap.size ≤ q
section
variable {wR W W' : World} {w1s B P : Nat} {L R : BX} {ro ed : Int} {os : List ByteArray} {s0 ss : List Int} {f : Int → Int} {nv sv v : Value} {k : Nat} {bx : Array Value}
theorem JN.lay (h : JN wR w1s B P L R ro ed os s0 f nv sv k ss bx W) (hb : Below W.heap.size W W') : JN wR w1s B P L R ro ed os s0 f nv sv k ss bx W' :=
  { h with gt := h.gt.lay hb, rn := h.rn.kept (Kept.of_below hb (fun _ => False)) (fun _ _ h => h) (fun _ _ _ _ _ h => h) }
/-- The rows of the second one stand where neither its nodes' row nor its links' rows are touched. -/
theorem JN.rkept {T : Nat → Prop} (h : JN wR w1s B P L R ro ed os s0 f nv sv k ss bx W) (hk : Kept T W W') (hT : ∀ q, T q → q < w1s ∨ wR.heap.size ≤ q) : NT W' w1s R.nv R.sv R.ns R.ls :=
  h.rn.kept hk (fun q hq e => by have := h.rb q hq; have := hT q e; omega) (fun i l q hl hq e => by have := h.rl i l q hl hq; have := hT q e; omega)
/-- A cell of a block that is not of the rows: a node's box. -/
theorem JN.box {g o : Nat} {cs : Array Value} {t : TypeId} (h : JN wR w1s B P L R ro ed os s0 f nv sv k ss bx W) (hg : W.heap[g]? = some (.cells cs t)) (ht : 88 = t) (hgs : wR.heap.size ≤ g) (hgP : g ≠ P) (hnv : ∀ q, nv.ownBlock = some q → q ≠ g) (u : Value) : JN wR w1s B P L R ro ed os s0 f nv sv k ss bx (W.setCell ⟨g, o, none⟩ u) := by
  have hK : Kept (fun q => q = g) W (W.setCell ⟨g, o, none⟩ u) := (Kept.refl _ W).setCell (S := fun q => q = g) (p := ⟨g, o, none⟩) rfl _
  subst ht
  have hB := h.bs
  exact { h with
    gt := { k := h.gt.k.trans (hK.mono fun q hq => .inr (by omega)), box := (hK.block P (Array.getElem?_eq_some_iff.1 h.gt.box).1 (fun e => hgP e.symm)).trans h.gt.box
            ob := { N := h.gt.ob.N.kept hK (fun q hq e => hnv q hq e) (fun i l q hl hq e => by obtain ⟨x, _, hx⟩ := h.gt.ob.N.lkown hl; subst e; exact ownsT hx hg (by decide) hq)
                    S := ownsK h.gt.ob.S hK (fun q hq e => by subst e; exact ownsT h.gt.ob.S hg (by decide) hq), O := ownsK h.gt.ob.O hK (fun q hq e => by subst e; exact ownsT h.gt.ob.O hg (by decide) hq), I := ownsK h.gt.ob.I hK (fun q hq e => by subst e; exact ownsT h.gt.ob.I hg (by decide) hq) } }
    rn := h.rkept hK (fun q hq => by omega) }
theorem JX_N (h : OB W B (JX L R ro ed os s0 f nv sv k ss)) (hk : k ≤ R.ns.length) : W.ownsRow B 88 3 nv (L.ns.length + k) (ncells (L.ns ++ (R.ns.take k).map (mvN f)) (L.ls ++ R.ls.take k)) := by
  have := h.N.own
  rw [show (JX L R ro ed os s0 f nv sv k ss).ns.length = L.ns.length + k from by show (L.ns ++ (R.ns.take k).map (mvN f)).length = _; rw [List.length_append, List.length_map, List.length_take]; omega] at this
  exact this
theorem JX_S (h : OB W B (JX L R ro ed os s0 f nv sv k ss)) {j : Nat} (hj : ss.length = j) : W.ownsRow B 3 1 sv (s0.length + j) (ints (s0 ++ ss)) := by
  have := h.S
  rw [show (JX L R ro ed os s0 f nv sv k ss).ss.length = s0.length + j from by show (s0 ++ ss).length = _; rw [List.length_append, hj]] at this
  exact this
/-- A node of the second one is put behind, its parent turned. -/
theorem JN.next (h : JN wR w1s B P L R ro ed os s0 f nv sv k ss bx W) {x : Nod} {l : Value} (hx : R.ns[k]? = some x) (hl : R.ls[k]? = some l)
    (ho : W'.ownsRow B 88 3 v (L.ns.length + k + 1) (ncells (L.ns ++ (R.ns.take k).map (mvN f)) (L.ls ++ R.ls.take k) ++ [.int .i64 x.1, .int .i64 (f x.2.1), l])) (hk : Kept (fun q => nv.ownBlock = some q) W W') (hm : Moved W nv v) :
    JN wR w1s B P L R ro ed os s0 f v sv (k + 1) ss bx W' := by
  have hB := h.bs
  have hks := (List.getElem?_eq_some_iff.1 hx).1
  have hrow := owns_mono (h.rn.lk k l x hl hx) hB.1
  have hap := h.gt.appN (x := mvN f x) (l := l) (v := v) hrow (fun b hb => ⟨fun e => by have := h.sb b e; have := h.rl k l b hl hb; omega, fun i m hm2 e => by
    have hlb := h.rl k l b hl hb
    replace hm2 : (L.ls ++ R.ls.take k)[i]? = some m := hm2
    rcases Nat.lt_or_ge i L.ls.length with hi | hi
    · rw [List.getElem?_append_left hi] at hm2
      have := h.ll i m b hm2 e
      omega
    · rw [List.getElem?_append_right hi, List.getElem?_take] at hm2
      split at hm2
      · rename_i hik
        exact h.rn.dis (i - L.ls.length) k m l b hik hm2 hl e hb
      cases hm2⟩) (by
    rw [show (JX L R ro ed os s0 f nv sv k ss).ns.length = L.ns.length + k from by show (L.ns ++ (R.ns.take k).map (mvN f)).length = _; rw [List.length_append, List.length_map, List.length_take]; omega]
    exact ho) hk
  have en : L.ns ++ (R.ns.take (k + 1)).map (mvN f) = (L.ns ++ (R.ns.take k).map (mvN f)) ++ [mvN f x] := by
    rw [List.take_add_one, hx, List.map_append, ← List.append_assoc]; rfl
  have el : L.ls ++ R.ls.take (k + 1) = (L.ls ++ R.ls.take k) ++ [l] := by
    rw [List.take_add_one, hl, ← List.append_assoc]; rfl
  exact { h with
    gt := by unfold JX; rw [en, el]; exact hap
    rn := h.rkept hk h.nb
    nb := fun q hq => by
      rcases hm q hq with h1 | h1
      · exact h.nb q h1
      have := h.gt.k.size; exact .inr (by omega) }
theorem JN.put (h : JN wR w1s B P L R ro ed os s0 f nv sv k ss bx W) (j : Nat) (u : Value) : JN wR w1s B P L R ro ed os s0 f nv sv k ss (bx.setIfInBounds j u) (W.setCell ⟨P, j, none⟩ u) := by
  have hK : Kept (fun q => q = P) W (W.setCell ⟨P, j, none⟩ u) := (Kept.refl _ W).setCell (S := fun q => q = P) (p := ⟨P, j, none⟩) rfl _
  have hB := h.bs
  exact { h with gt := h.gt.put j u, rn := h.rkept hK (fun q hq => .inr (by omega)) }
/-- A site of the second one is put behind, its parent turned. -/
theorem JN.nextS (h : JN wR w1s B P L R ro ed os s0 f nv sv k ss bx W) {y : Int} {j : Nat} (hj : ss.length = j)
    (ho : W'.ownsRow B 3 1 v (s0.length + j + 1) (ints (s0 ++ ss) ++ [.int .i64 y])) (hk : Kept (fun q => sv.ownBlock = some q) W W') (hm : Moved W sv v) :
    JN wR w1s B P L R ro ed os s0 f nv v k (ss ++ [y]) bx W' := by
  have hap := h.gt.appS (x := y) (v := v) (by
    rw [show (JX L R ro ed os s0 f nv sv k ss).ss.length = s0.length + j from by show (s0 ++ ss).length = _; rw [List.length_append, hj]]
    exact ho) hk hm
  exact { h with
    gt := by unfold JX; rw [← List.append_assoc]; exact hap
    rn := h.rkept hk (fun q hq => .inr (h.sb q hq))
    sb := fun q hq => by
      rcases hm q hq with h1 | h1
      · exact h.sb q h1
      have := h.gt.k.size; omega }
theorem set6_block {W : World} {g P : Nat} {o : Obj} {u0 u1 u2 u3 u4 u5 : Value} (hg : g ≠ P) (h : W.heap[g]? = some o) : ((((((W.setCell ⟨P, 0, none⟩ u0).setCell ⟨P, 1, none⟩ u1).setCell ⟨P, 2, none⟩ u2).setCell ⟨P, 3, none⟩ u3).setCell ⟨P, 4, none⟩ u4).setCell ⟨P, 5, none⟩ u5).heap[g]? = some o :=
  (((((((Kept.refl (fun q => q = P) W).setCell (p := ⟨P, 0, none⟩) rfl u0).setCell (p := ⟨P, 1, none⟩) rfl u1).setCell (p := ⟨P, 2, none⟩) rfl u2).setCell (p := ⟨P, 3, none⟩) rfl u3).setCell (p := ⟨P, 4, none⟩) rfl u4).setCell (p := ⟨P, 5, none⟩) rfl u5).block g (Array.getElem?_eq_some_iff.1 h).1 hg |>.trans h
theorem JN.start0 (hL : OB W B L) (hR : OB W w1s R) (hll : ∀ (i : Nat) l q, L.ls[i]? = some l → l.ownBlock = some q → q < w1s) (hln : ∀ q, L.nv.ownBlock = some q → q < w1s)
    (hrn : ∀ q, R.nv.ownBlock = some q → q < wR.heap.size) (hrl : ∀ (i : Nat) l q, R.ls[i]? = some l → l.ownBlock = some q → q < wR.heap.size) (hs : W.ownsRow wR.heap.size 3 1 sv s0.length (ints s0))
    (hb : B ≤ w1s ∧ w1s ≤ wR.heap.size) (hP : wR.heap.size ≤ P) (hz : W.heap[P]? = some (.cells #[.int .i64 0, .slice none 0 0, .slice none 0 0, .int .i64 0, .slice none 0 0, .slice none 0 0] 31)) (hbel : Below wR.heap.size wR W) (hos : L.os = os) :
    JN wR w1s B P L R ro ed os s0 f L.nv sv 0 [] #[.int .i64 0, .slice none 0 0, .slice none 0 0, .int .i64 0, .slice none 0 0, .slice none 0 0] W := by
  subst hos
  refine { gt := { k := Kept.of_below hbel _, box := hz, ob := { N := { own := ?_, len := ?_, lk := fun i l x hl hx => ?_, dis := fun i j l l' b hij hl hl' hb => ?_, sep := fun i l b hl hb e => ?_ }, S := ?_, O := hL.O, I := owns_mono hR.I hb.1 } }
           rn := hR.N, bs := ⟨hb.1, hb.2, hP⟩, nb := fun q hq => .inl (hln q hq), rb := fun q hq => ⟨(hR.N.own.lt q hq).1, hrn q hq⟩, rl := fun i l q hl hq => ⟨by obtain ⟨x, _, hx⟩ := hR.N.lkown hl; exact (hx.lt q hq).1, hrl i l q hl hq⟩, ll := hll, sb := fun q hq => (hs.lt q hq).1 }
  · show W.ownsRow B 88 3 L.nv (L.ns ++ (R.ns.take 0).map (mvN f)).length (ncells (L.ns ++ (R.ns.take 0).map (mvN f)) (L.ls ++ R.ls.take 0))
    simp only [List.take_zero, List.map_nil, List.append_nil]
    exact hL.N.own
  · show (L.ls ++ R.ls.take 0).length = (L.ns ++ (R.ns.take 0).map (mvN f)).length
    simp only [List.take_zero, List.map_nil, List.append_nil]
    exact hL.N.len
  · replace hl : (L.ls ++ R.ls.take 0)[i]? = some l := hl
    replace hx : (L.ns ++ (R.ns.take 0).map (mvN f))[i]? = some x := hx
    simp only [List.take_zero, List.map_nil, List.append_nil] at hl hx
    exact hL.N.lk i l x hl hx
  · replace hl : (L.ls ++ R.ls.take 0)[i]? = some l := hl
    replace hl' : (L.ls ++ R.ls.take 0)[j]? = some l' := hl'
    simp only [List.take_zero, List.append_nil] at hl hl'
    exact hL.N.dis i j l l' b hij hl hl' hb
  · replace hl : (L.ls ++ R.ls.take 0)[i]? = some l := hl
    simp only [List.take_zero, List.append_nil] at hl
    have h1 := hll i l b hl hb
    have h2 := (hs.lt b e).1
    omega
  show W.ownsRow B 3 1 sv (s0 ++ []).length (ints (s0 ++ []))
  rw [List.append_nil]
  exact owns_mono hs (by omega)
theorem JN.fill (h : JN wR w1s B P L R ro ed os s0 f nv sv k ss #[.int .i64 0, .slice none 0 0, .slice none 0 0, .int .i64 0, .slice none 0 0, .slice none 0 0] W) : JN wR w1s B P L R ro ed os s0 f nv sv k ss (JX L R ro ed os s0 f nv sv k ss).cells
    ((((((W.setCell ⟨P, 0, none⟩ (.int .i64 ro)).setCell ⟨P, 1, none⟩ nv).setCell ⟨P, 2, none⟩ sv).setCell ⟨P, 3, none⟩ (.int .i64 ed)).setCell ⟨P, 4, none⟩ L.ov).setCell ⟨P, 5, none⟩ R.iv) :=
  ((((((h.put 0 _).put 1 _).put 2 _).put 3 _).put 4 _).put 5 _)
end
/-- A parent of a relinked bigraph is one of the bigraph. -/
theorem rel_par {g : Gr} {e : Int} {o : List ByteArray} {t : En → En} {x : Nod} (h : x ∈ (relinkG g e o t).nodes) : ∃ y ∈ g.nodes, y.2.1 = x.2.1 := by
  obtain ⟨y, hy, rfl⟩ := List.mem_map.1 h
  exact ⟨y, hy, rfl⟩

end Go.Proofs.YtijkdpdmclkmlaaGreatDoor
