/- A bigraph that is being built (no draws): its struct in a box, its rows of its own. -/
import Derived.Test.YtijkdpdmclkmlaaGreatDoorProg
import Derived.Test.YtijkdpdmclkmlaaGreatDoorJ17
set_option linter.unusedSimpArgs false
set_option linter.unusedVariables false
set_option maxRecDepth 100000
set_option maxHeartbeats 16000000
namespace Go.Proofs.YtijkdpdmclkmlaaGreatDoor
open Go.RowKit
/-- The nodes' row with its links: no two of them, nor one and the sites' row, share a block. -/
structure NT (W : World) (B : Nat) (nv sv : Value) (ns : List Nod) (ls : List Value) : Prop where
  own : W.ownsRow B 88 3 nv ns.length (ncells ns ls)
  len : ls.length = ns.length
  lk : ∀ (i : Nat) l x, ls[i]? = some l → ns[i]? = some x → W.ownsRow B 3 1 l x.2.2.length (ints x.2.2)
  dis : ∀ (i j : Nat) l l' b, i < j → ls[i]? = some l → ls[j]? = some l' → l.ownBlock = some b → l'.ownBlock ≠ some b
  sep : ∀ (i : Nat) l b, ls[i]? = some l → l.ownBlock = some b → sv.ownBlock ≠ some b

/-- Rows of its own at B and above. -/
structure OB (W : World) (B : Nat) (X : BX) : Prop where
  N : NT W B X.nv X.sv X.ns X.ls
  S : W.ownsRow B 3 1 X.sv X.ss.length (ints X.ss)
  O : W.ownsRow B 9 1 X.ov X.os.length (strs X.os)
  I : W.ownsRow B 90 2 X.iv X.is.length (X.is.flatMap encWi)

/-- The same, its struct in the box P (cells bx); only the box and what lies at B and above has turned. -/
structure GT (w : World) (B P : Nat) (bx : Array Value) (X : BX) (W : World) : Prop where
  k : Kept (fun q => q = P ∨ B ≤ q) w W
  box : W.heap[P]? = some (.cells bx 31)
  ob : OB W B X

section
variable {w W W' : World} {B B' P : Nat} {nv sv : Value} {ns : List Nod} {ls : List Value} {bx : Array Value} {X : BX}
theorem NT.lkown (h : NT W B nv sv ns ls) {i : Nat} {l : Value} (hl : ls[i]? = some l) : ∃ x, ns[i]? = some x ∧ W.ownsRow B 3 1 l x.2.2.length (ints x.2.2) := by
  have hi := (List.getElem?_eq_some_iff.1 hl).1
  have hx : ns[i]? = some (ns[i]'(by rw [← h.len]; exact hi)) := List.getElem?_eq_getElem _
  exact ⟨_, hx, h.lk i l _ hl hx⟩
theorem NT.kept {T : Nat → Prop} (h : NT W B nv sv ns ls) (hk : Kept T W W') (h1 : ∀ g, nv.ownBlock = some g → ¬ T g) (h2 : ∀ (i : Nat) l g, ls[i]? = some l → l.ownBlock = some g → ¬ T g) : NT W' B nv sv ns ls :=
  { h with own := ownsK h.own hk h1, lk := fun i l x hl hx => ownsK (h.lk i l x hl hx) hk (h2 i l · hl) }
theorem NT.mono (h : NT W B nv sv ns ls) (hb : B' ≤ B) : NT W B' nv sv ns ls := { h with own := owns_mono h.own hb, lk := fun i l x hl hx => owns_mono (h.lk i l x hl hx) hb }
theorem NT.nr (h : NT W B nv sv ns ls) : NR W B W.heap.size true nv ns ls :=
  { own := h.own, len := h.len, lk := h.lk, lt := fun i l b hl hb => by obtain ⟨x, _, hx⟩ := h.lkown hl; exact (hx.lt b hb).2, dis := fun _ => h.dis }
theorem OB.kept {T : Nat → Prop} (h : OB W B X) (hk : Kept T W W') (hT : ∀ q, T q → q < B ∨ W.heap.size ≤ q) : OB W' B X := by
  have key : ∀ {e : TypeId} {s n : Nat} {v : Value} {xs : List Value}, W.ownsRow B e s v n xs → W'.ownsRow B e s v n xs := fun ho => ownsK ho hk (fun g hg e => by have := ho.lt g hg; have := hT g e; omega)
  exact { N := { h.N with own := key h.N.own, lk := fun i l x hl hx => key (h.N.lk i l x hl hx) }, S := key h.S, O := key h.O, I := key h.I }
theorem OB.below (h : OB W B X) (hb : Below W.heap.size W W') : OB W' B X := h.kept (Kept.of_below hb (fun _ => False)) (fun q hq => hq.elim)
theorem OB.mono (h : OB W B X) (hb : B' ≤ B) : OB W B' X := { N := h.N.mono hb, S := owns_mono h.S hb, O := owns_mono h.O hb, I := owns_mono h.I hb }
/-- It reads as its bigraph, and goes on to while nothing at B or above turns. -/
theorem OB.rk (h : OB W B X) (hs : SmallG X.g) : RK B W X.nv X.sv X.ov X.iv X.g := rk_of h.N.nr h.S h.O h.I hs
theorem OB.rgr (h : OB W B X) (hs : SmallG X.g) : RGr W X.nv X.sv X.ov X.iv X.g := (h.rk hs).now
theorem OB.form (h : OB W B X) : ∃ AN cN AS cS AO cO AI cI, X.nv = .slice AN X.ns.length cN ∧ X.sv = .slice AS X.ss.length cS ∧ X.ov = .slice AO X.os.length cO ∧ X.iv = .slice AI X.is.length cI := by
  obtain ⟨AN, cN, e1, _⟩ := owns_form h.N.own
  obtain ⟨AS, cS, e2, _⟩ := owns_form h.S
  obtain ⟨AO, cO, e3, _⟩ := owns_form h.O
  obtain ⟨AI, cI, e4, _⟩ := owns_form h.I
  exact ⟨AN, cN, AS, cS, AO, cO, AI, cI, e1, e2, e3, e4⟩
/-- No rows yet. -/
theorem ob_none (W : World) (B : Nat) (r e : Int) : OB W B ⟨r, e, .slice none 0 0, .slice none 0 0, .slice none 0 0, .slice none 0 0, [], [], [], [], []⟩ :=
  { N := { own := none_row, len := rfl, lk := fun i l x h => by simp at h, dis := fun i j l l' b _ h => by simp at h, sep := fun i l b h => by simp at h }, S := none_row, O := none_row, I := none_row }
theorem GT.lay (h : GT w B P bx X W) (hb : Below W.heap.size W W') : GT w B P bx X W' :=
  { k := h.k.trans (Kept.of_below hb _), box := (hb.block P (Array.getElem?_eq_some_iff.1 h.box).1).trans h.box, ob := h.ob.below hb }
theorem GT.alloc (h : GT w B P bx X W) (o : Obj) : GT w B P bx X (W.alloc o) := h.lay ((Below.refl _ _).alloc (Nat.le_refl _) o)
theorem GT.drew (h : GT w B P bx X W) : GT w B P bx X W.drew := h.lay ((Below.refl _ _).drew)
theorem GT.cell (h : GT w B P bx X W) {f : Nat} {u : Value} (hf : bx[f]? = some u) : W.cell? ⟨P, f, none⟩ = some u := (cell_of_row W P f _ _ _ h.box).trans hf
/-- A field of the box is written. -/
theorem GT.put (h : GT w B P bx X W) (f : Nat) (u : Value) : GT w B P (bx.setIfInBounds f u) X (W.setCell ⟨P, f, none⟩ u) := by
  have hK : Kept (fun q => q = P) W (W.setCell ⟨P, f, none⟩ u) := (Kept.refl _ W).setCell (S := fun q => q = P) (p := ⟨P, f, none⟩) rfl _
  exact { k := h.k.trans (hK.mono fun b hb => .inl hb), box := heap_setCell_same W P f _ _ u h.box
          ob := { N := h.ob.N.kept hK (fun g hg e => by subst e; exact ownsT h.ob.N.own h.box (by decide) hg) (fun i l g hl hg e => by obtain ⟨x, _, hx⟩ := h.ob.N.lkown hl; subst e; exact ownsT hx h.box (by decide) hg)
                  S := ownsK h.ob.S hK (fun g hg e => by subst e; exact ownsT h.ob.S h.box (by decide) hg), O := ownsK h.ob.O hK (fun g hg e => by subst e; exact ownsT h.ob.O h.box (by decide) hg), I := ownsK h.ob.I hK (fun g hg e => by subst e; exact ownsT h.ob.I h.box (by decide) hg) } }
theorem GT.appO {v : Value} {s : ByteArray} (h : GT w B P bx X W) (ho : W'.ownsRow B 9 1 v (X.os.length + 1) (strs X.os ++ [.string s])) (hk : Kept (fun q => X.ov.ownBlock = some q) W W') : GT w B P bx { X with ov := v, os := X.os ++ [s] } W' :=
  { k := h.k.trans (hk.mono fun b hb => .inr (h.ob.O.lt b hb).1), box := (hk.block P (Array.getElem?_eq_some_iff.1 h.box).1 (fun e => ownsT h.ob.O h.box (by decide) e)).trans h.box
    ob := { N := h.ob.N.kept hk (fun g hg => ownsA h.ob.N.own h.ob.O (by decide) g hg) (fun i l g hl hg => by obtain ⟨x, _, hx⟩ := h.ob.N.lkown hl; exact ownsA hx h.ob.O (by decide) g hg)
            S := ownsK h.ob.S hk (fun g hg => ownsA h.ob.S h.ob.O (by decide) g hg)
            O := by
              show W'.ownsRow B 9 1 v (X.os ++ [s]).length (strs (X.os ++ [s]))
              rw [List.length_append, show strs (X.os ++ [s]) = strs X.os ++ [.string s] from by simp [strs]]
              exact ho
            I := ownsK h.ob.I hk (fun g hg => ownsA h.ob.I h.ob.O (by decide) g hg) } }
theorem GT.appI {v : Value} {x : Wi} (h : GT w B P bx X W) (ho : W'.ownsRow B 90 2 v (X.is.length + 1) (X.is.flatMap encWi ++ [.string x.1, .int .i64 x.2])) (hk : Kept (fun q => X.iv.ownBlock = some q) W W') : GT w B P bx { X with iv := v, is := X.is ++ [x] } W' :=
  { k := h.k.trans (hk.mono fun b hb => .inr (h.ob.I.lt b hb).1), box := (hk.block P (Array.getElem?_eq_some_iff.1 h.box).1 (fun e => ownsT h.ob.I h.box (by decide) e)).trans h.box
    ob := { N := h.ob.N.kept hk (fun g hg => ownsA h.ob.N.own h.ob.I (by decide) g hg) (fun i l g hl hg => by obtain ⟨x, _, hx⟩ := h.ob.N.lkown hl; exact ownsA hx h.ob.I (by decide) g hg)
            S := ownsK h.ob.S hk (fun g hg => ownsA h.ob.S h.ob.I (by decide) g hg), O := ownsK h.ob.O hk (fun g hg => ownsA h.ob.O h.ob.I (by decide) g hg)
            I := by
              show W'.ownsRow B 90 2 v (X.is ++ [x]).length ((X.is ++ [x]).flatMap encWi)
              rw [List.length_append, List.flatMap_append]
              exact ho } }
/-- The sites' row has grown, in its place or to a new one. -/
theorem GT.appS {v : Value} {x : Int} (h : GT w B P bx X W) (ho : W'.ownsRow B 3 1 v (X.ss.length + 1) (ints X.ss ++ [.int .i64 x])) (hk : Kept (fun q => X.sv.ownBlock = some q) W W') (hm : Moved W X.sv v) : GT w B P bx { X with sv := v, ss := X.ss ++ [x] } W' :=
  { k := h.k.trans (hk.mono fun b hb => .inr (h.ob.S.lt b hb).1), box := (hk.block P (Array.getElem?_eq_some_iff.1 h.box).1 (fun e => ownsT h.ob.S h.box (by decide) e)).trans h.box
    ob := { N := { h.ob.N.kept hk (fun g hg => ownsA h.ob.N.own h.ob.S (by decide) g hg) (fun i l g hl hg e => h.ob.N.sep i l g hl hg e) with
              sep := fun i l b hl hb e => by
                rcases hm b e with h1 | h1
                · exact h.ob.N.sep i l b hl hb h1
                obtain ⟨y, _, hy⟩ := h.ob.N.lkown hl
                have := (hy.lt b hb).2
                omega }
            S := by
              show W'.ownsRow B 3 1 v (X.ss ++ [x]).length (ints (X.ss ++ [x]))
              rw [List.length_append, show ints (X.ss ++ [x]) = ints X.ss ++ [.int .i64 x] from by simp [ints]]
              exact ho
            O := ownsK h.ob.O hk (fun g hg => ownsA h.ob.O h.ob.S (by decide) g hg), I := ownsK h.ob.I hk (fun g hg => ownsA h.ob.I h.ob.S (by decide) g hg) } }
/-- A node more, whose links' row is its own. -/
theorem GT.appN {v l : Value} {x : Nod} (h : GT w B P bx X W) (hx : W.ownsRow B 3 1 l x.2.2.length (ints x.2.2)) (hd : ∀ b, l.ownBlock = some b → X.sv.ownBlock ≠ some b ∧ ∀ (i : Nat) m, X.ls[i]? = some m → m.ownBlock ≠ some b) (ho : W'.ownsRow B 88 3 v (X.ns.length + 1) (ncells X.ns X.ls ++ [.int .i64 x.1, .int .i64 x.2.1, l])) (hk : Kept (fun q => X.nv.ownBlock = some q) W W') : GT w B P bx { X with nv := v, ns := X.ns ++ [x], ls := X.ls ++ [l] } W' := by
  have hlen := h.ob.N.len
  refine { k := h.k.trans (hk.mono fun b hb => .inr (h.ob.N.own.lt b hb).1), box := (hk.block P (Array.getElem?_eq_some_iff.1 h.box).1 (fun e => ownsT h.ob.N.own h.box (by decide) e)).trans h.box
           ob := { N := { own := by
                            show W'.ownsRow B 88 3 v (X.ns ++ [x]).length (ncells (X.ns ++ [x]) (X.ls ++ [l]))
                            rw [List.length_append, ncells_app x l hlen]; exact ho
                          len := by show (X.ls ++ [l]).length = (X.ns ++ [x]).length; simp [hlen], lk := fun i m y hm hy => ?_, dis := fun i j m m' b hij hm hm' hb => ?_, sep := fun i m b hm hb => ?_ }
                   S := ownsK h.ob.S hk (fun g hg => ownsA h.ob.S h.ob.N.own (by decide) g hg), O := ownsK h.ob.O hk (fun g hg => ownsA h.ob.O h.ob.N.own (by decide) g hg), I := ownsK h.ob.I hk (fun g hg => ownsA h.ob.I h.ob.N.own (by decide) g hg) } }
  · replace hm : (X.ls ++ [l])[i]? = some m := hm
    replace hy : (X.ns ++ [x])[i]? = some y := hy
    rcases Nat.lt_trichotomy i X.ls.length with hi | hi | hi
    · rw [List.getElem?_append_left hi] at hm
      rw [List.getElem?_append_left (by omega)] at hy
      have ha := h.ob.N.lk i m y hm hy
      exact ownsK ha hk (fun g hg => ownsA ha h.ob.N.own (by decide) g hg)
    · subst hi
      rw [List.getElem?_append_right (Nat.le_refl _), Nat.sub_self] at hm
      rw [hlen, List.getElem?_append_right (Nat.le_refl _), Nat.sub_self] at hy
      simp at hm hy
      subst hm
      subst hy
      exact ownsK hx hk (fun g hg => ownsA hx h.ob.N.own (by decide) g hg)
    rw [List.getElem?_eq_none (by simp; omega)] at hm
    cases hm
  · replace hm : (X.ls ++ [l])[i]? = some m := hm
    replace hm' : (X.ls ++ [l])[j]? = some m' := hm'
    have hj : j ≤ X.ls.length := by
      have := (List.getElem?_eq_some_iff.1 hm').1
      simp at this
      omega
    rw [List.getElem?_append_left (by omega)] at hm
    rcases Nat.lt_or_eq_of_le hj with hj | hj
    · rw [List.getElem?_append_left hj] at hm'
      exact h.ob.N.dis i j m m' b hij hm hm' hb
    subst hj
    rw [List.getElem?_append_right (Nat.le_refl _), Nat.sub_self] at hm'
    simp at hm'
    subst hm'
    intro e
    exact (hd b e).2 i m hm hb
  replace hm : (X.ls ++ [l])[i]? = some m := hm
  rcases Nat.lt_trichotomy i X.ls.length with hi | hi | hi
  · rw [List.getElem?_append_left hi] at hm
    exact h.ob.N.sep i m b hm hb
  · subst hi
    rw [List.getElem?_append_right (Nat.le_refl _), Nat.sub_self] at hm
    simp at hm
    subst hm
    exact (hd b hb).1
  rw [List.getElem?_eq_none (by simp; omega)] at hm
  cases hm
end

end Go.Proofs.YtijkdpdmclkmlaaGreatDoor
