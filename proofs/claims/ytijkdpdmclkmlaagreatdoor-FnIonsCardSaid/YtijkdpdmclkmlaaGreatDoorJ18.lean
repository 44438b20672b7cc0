/- A bigraph that is being drawn: what holds of the memory while it grows. A drawn bigraph that is harmed: what holds of the memory, and what is left behind. -/
import Derived.Test.YtijkdpdmclkmlaaGreatDoorProg
import Derived.Test.YtijkdpdmclkmlaaGreatDoorJ13
import Derived.Test.YtijkdpdmclkmlaaGreatDoorJ2
import Derived.Test.YtijkdpdmclkmlaaGreatDoorJ16
set_option linter.unusedSimpArgs false
set_option linter.unusedVariables false
set_option maxRecDepth 100000
set_option maxHeartbeats 16000000
namespace Go.Proofs.YtijkdpdmclkmlaaGreatDoor
open Go.RowKit
def ncells : List Nod → List Value → List Value
  | x :: ns, l :: ls => .int .i64 x.1 :: .int .i64 x.2.1 :: l :: ncells ns ls
  | _, _ => []
theorem ncells_app : ∀ {ns : List Nod} {ls : List Value} (x : Nod) (l : Value), ls.length = ns.length → ncells (ns ++ [x]) (ls ++ [l]) = ncells ns ls ++ [.int .i64 x.1, .int .i64 x.2.1, l]
  | [], [], x, l, _ => rfl
  | [], _ :: _, _, _, h => by simp at h
  | _ :: _, [], _, _, h => by simp at h
  | y :: ns, m :: ls, x, l, h => by
    simp only [List.cons_append, ncells, ncells_app x l (show ls.length = ns.length by simpa using h)]

/-- The nodes' row: their links in rows of their own, below C; d: no two of them share a block. -/
structure NR (W : World) (B C : Nat) (d : Bool) (nv : Value) (ns : List Nod) (ls : List Value) : Prop where
  own : W.ownsRow B 88 3 nv ns.length (ncells ns ls)
  len : ls.length = ns.length
  lk : ∀ (i : Nat) l x, ls[i]? = some l → ns[i]? = some x → W.ownsRow B 3 1 l x.2.2.length (ints x.2.2)
  lt : ∀ (i : Nat) l b, ls[i]? = some l → l.ownBlock = some b → b < C
  dis : d = true → ∀ (i j : Nat) l l' b, i < j → ls[i]? = some l → ls[j]? = some l' → l.ownBlock = some b → l'.ownBlock ≠ some b

structure BX where
  r : Int
  e : Int
  nv : Value
  sv : Value
  ov : Value
  iv : Value
  ns : List Nod
  ls : List Value
  ss : List Int
  os : List ByteArray
  is : List Wi

def BX.cells (X : BX) : Array Value := #[.int .i64 X.r, X.nv, X.sv, .int .i64 X.e, X.ov, X.iv]
def BX.g (X : BX) : Gr := ⟨X.r, X.ns, X.ss, X.e, X.os, X.is⟩

section
variable {W W' : World} {B C : Nat} {d : Bool} {nv : Value} {ns : List Nod} {ls : List Value}
theorem NR.kept {T : Nat → Prop} (h : NR W B C d nv ns ls) (hk : Kept T W W') (h1 : ∀ g, nv.ownBlock = some g → ¬ T g) (h2 : ∀ (i : Nat) l g, ls[i]? = some l → l.ownBlock = some g → ¬ T g) : NR W' B C d nv ns ls :=
  { h with own := ownsK h.own hk h1, lk := fun i l x hl hx => ownsK (h.lk i l x hl hx) hk (h2 i l · hl) }
theorem NR.lkown (h : NR W B C d nv ns ls) {i : Nat} {l : Value} (hl : ls[i]? = some l) : ∃ x, ns[i]? = some x ∧ W.ownsRow B 3 1 l x.2.2.length (ints x.2.2) := by
  have hi := (List.getElem?_eq_some_iff.1 hl).1
  have hx : ns[i]? = some (ns[i]'(by rw [← h.len]; exact hi)) := List.getElem?_eq_getElem _
  exact ⟨_, hx, h.lk i l _ hl hx⟩
theorem ncells_at : ∀ {ns : List Nod} {ls : List Value} {i : Nat} {x : Nod} {l : Value}, ns[i]? = some x → ls[i]? = some l → (ncells ns ls)[i * 3]? = some (.int .i64 x.1) ∧ (ncells ns ls)[i * 3 + 1]? = some (.int .i64 x.2.1) ∧ (ncells ns ls)[i * 3 + 2]? = some l
  | [], _, _, _, _, h, _ => by simp at h
  | _ :: _, [], _, _, _, _, h => by simp at h
  | y :: ns, m :: ls, 0, x, l, h1, h2 => by
    simp at h1 h2
    subst h1
    subst h2
    exact ⟨rfl, rfl, rfl⟩
  | y :: ns, m :: ls, i + 1, x, l, h1, h2 => by
    have := ncells_at (ns := ns) (ls := ls) (i := i) (by simpa using h1) (by simpa using h2)
    rw [show (i + 1) * 3 = i * 3 + 3 by omega]
    exact this
/-- The cells of a node. -/
theorem NR.cells (h : NR W B C d nv ns ls) {i : Nat} (hi : i < ns.length) : ∃ g c l, nv = .slice (some ⟨g, 0, none⟩) ns.length c ∧ ls[i]? = some l ∧ W.cell? ⟨g, i * 3, none⟩ = some (.int .i64 (ns[i]).1) ∧ W.cell? ⟨g, i * 3 + 1, none⟩ = some (.int .i64 (ns[i]).2.1) ∧ W.cell? ⟨g, i * 3 + 2, none⟩ = some l := by
  have hl : ls[i]? = some (ls[i]'(by rw [h.len]; exact hi)) := List.getElem?_eq_getElem _
  obtain ⟨a1, a2, a3⟩ := ncells_at (List.getElem?_eq_getElem hi) hl
  have ho := h.own
  rcases ho.2 with ⟨_, e⟩ | ⟨g, c, cur, rfl, _⟩
  · omega
  have hc := fun j u => ho.cells (g := g) rfl j u
  have e : ∀ j, (⟨g, 0, none⟩ : Addr).add j = ⟨g, j, none⟩ := fun j => by simp [Addr.add, eq_comm]
  exact ⟨g, c, _, rfl, hl, by rw [← e]; exact hc _ _ a1, by rw [← e]; exact hc _ _ a2, by rw [← e]; exact hc _ _ a3⟩
/-- Another row has grown. -/
theorem NR.other {B2 s2 n2 : Nat} {e2 : TypeId} {u : Value} {xs2 : List Value} (h : NR W B C d nv ns ls) (ho : W.ownsRow B2 e2 s2 u n2 xs2) (h1 : 88 ≠ e2) (h2 : 3 ≠ e2 ∨ C ≤ B2) (hk : Kept (fun q => u.ownBlock = some q) W W') : NR W' B C d nv ns ls :=
  h.kept hk (fun g hg => ownsA h.own ho h1 g hg) (fun i l g hl hg e => by
    rcases h2 with h2 | h2
    · obtain ⟨x, _, hx⟩ := h.lkown hl
      exact ownsA hx ho h2 g hg e
    have := h.lt i l g hl hg
    have := (ho.lt g e).1
    omega)
theorem NR.up {C' : Nat} (h : NR W B C d nv ns ls) (hc : C ≤ C') : NR W B C' d nv ns ls := { h with lt := fun i l b h1 h2 => Nat.lt_of_lt_of_le (h.lt i l b h1 h2) hc }
end

section
variable {w W W' : World} {p B P C c K K' : Nat} {A : Option Addr} {bs : List Int} {d : Bool} {bx : Array Value} {X : BX}
end

def nrows : List Nod → List Value → List (List Value)
  | x :: ns, l :: ls => [.int .i64 x.1, .int .i64 x.2.1, l] :: nrows ns ls
  | _, _ => []
theorem nrows_flat : ∀ (ns : List Nod) (ls : List Value), (nrows ns ls).flatten = ncells ns ls
  | [], _ => rfl
  | _ :: _, [] => rfl
  | x :: ns, l :: ls => by simp [nrows, ncells, nrows_flat ns ls]
theorem nrows_len : ∀ {ns : List Nod} {ls : List Value}, ls.length = ns.length → (nrows ns ls).length = ns.length
  | [], _, _ => rfl
  | _ :: _, [], h => by simp at h
  | x :: ns, l :: ls, h => by simp only [nrows, List.length_cons, nrows_len (ns := ns) (ls := ls) (by simpa using h)]
theorem nrows_three : ∀ {ns : List Nod} {ls : List Value} {cs : List Value}, cs ∈ nrows ns ls → cs.length = 3
  | [], _, _, h => by simp [nrows] at h
  | _ :: _, [], _, h => by simp [nrows] at h
  | x :: ns, l :: ls, cs, h => by
    rcases List.mem_cons.1 h with rfl | h
    · rfl
    exact nrows_three h
theorem nrows_at : ∀ {ns : List Nod} {ls : List Value} {i : Nat} {cs : List Value} {x : Nod}, (nrows ns ls)[i]? = some cs → ns[i]? = some x → ∃ l, ls[i]? = some l ∧ cs = [.int .i64 x.1, .int .i64 x.2.1, l]
  | [], _, _, _, _, h, _ => by simp [nrows] at h
  | _ :: _, [], _, _, _, h, _ => by simp [nrows] at h
  | y :: ns, m :: ls, 0, cs, x, h1, h2 => by
    simp [nrows] at h1 h2
    subst h2
    exact ⟨m, rfl, h1.symm⟩
  | y :: ns, m :: ls, i + 1, cs, x, h1, h2 => nrows_at (ns := ns) (ls := ls) (i := i) (by simpa [nrows] using h1) (by simpa using h2)
section
variable {W W' : World} {B C : Nat} {d : Bool} {nv : Value} {ns : List Nod} {ls : List Value}
theorem NR.rsl (h : NR W B C d nv ns ls) (hn : ns.length ≤ 1000) : RSl RNod 3 W nv ns := by
  obtain ⟨A, c, rfl, ho⟩ := owns_form h.own
  refine ⟨A, c, nrows ns ls, rfl, by unfold maxLen; omega, nrows_len h.len, fun cs hc => nrows_three hc, ?_, fun i cs x h1 h2 => ?_⟩
  · rw [nrows_flat]; exact Cells.of_owns ho
  obtain ⟨l, hl, rfl⟩ := nrows_at h1 h2
  obtain ⟨AL, cL, rfl, hL⟩ := owns_form (h.lk i l x hl h2)
  exact ⟨AL, cL, rfl, Cells.of_owns hL⟩
theorem NR.to (h : NR W B C d nv ns ls) : NR W B C false nv ns ls := { h with dis := fun e => by cases e }
/-- A node more, whose links are those of a node that is there. -/
theorem NR.share {v2 : Value} {x : Nod} {l : Value} (h : NR W B C false nv ns ls) (hx : W.ownsRow B 3 1 l x.2.2.length (ints x.2.2)) (hlt : ∀ b, l.ownBlock = some b → b < C) (hk : Kept (fun q => nv.ownBlock = some q) W W') (ho : W'.ownsRow B 88 3 v2 (ns.length + 1) (ncells ns ls ++ [.int .i64 x.1, .int .i64 x.2.1, l])) : NR W' B C false v2 (ns ++ [x]) (ls ++ [l]) := by
  have hlen := h.len
  refine { own := by rw [List.length_append, ncells_app x l h.len]; exact ho, len := by simp [h.len], lk := fun i m y hm hy => ?_, lt := fun i m b hm hb => ?_, dis := fun hd => by cases hd }
  · rcases Nat.lt_trichotomy i ls.length with hi | hi | hi
    · rw [List.getElem?_append_left hi] at hm
      rw [List.getElem?_append_left (by omega)] at hy
      have ha := h.lk i m y hm hy
      exact ownsK ha hk (fun g hg => ownsA ha h.own (by decide) g hg)
    · subst hi
      rw [List.getElem?_append_right (Nat.le_refl _), Nat.sub_self] at hm
      rw [hlen, List.getElem?_append_right (Nat.le_refl _), Nat.sub_self] at hy
      simp at hm hy
      subst hm
      subst hy
      exact ownsK hx hk (fun g hg => ownsA hx h.own (by decide) g hg)
    rw [List.getElem?_eq_none (by simp; omega)] at hm
    cases hm
  rcases Nat.lt_trichotomy i ls.length with hi | hi | hi
  · rw [List.getElem?_append_left hi] at hm
    exact h.lt i m b hm hb
  · subst hi
    rw [List.getElem?_append_right (Nat.le_refl _), Nat.sub_self] at hm
    simp at hm
    subst hm
    exact hlt b hb
  rw [List.getElem?_eq_none (by simp; omega)] at hm
  cases hm
end

theorem wi_rsl {w : World} {B : Nat} {e : TypeId} {v : Value} {l : List Wi} (h : w.ownsRow B e 2 v l.length (l.flatMap encWi)) (hn : l.length ≤ 1000) : RSl RWi 2 w v l := by
  obtain ⟨A, c, rfl, h⟩ := owns_form h
  refine ⟨A, c, l.map encWi, rfl, by unfold maxLen; omega, by simp, fun cs hc => ?_, ?_, fun i cs x h1 h2 => ?_⟩
  · obtain ⟨x, _, rfl⟩ := List.mem_map.1 hc
    rfl
  · have e : (l.map encWi).flatten = l.flatMap encWi := by rw [List.flatMap_def]
    rw [e]
    exact Cells.of_owns h
  rw [List.getElem?_map, h2] at h1
  simp at h1
  exact h1.symm

/-- It reads as g, and goes on to while nothing at B or above turns. -/
def RK (B : Nat) (w : World) (nv sv ov iv : Value) (g : Gr) : Prop := ∀ W, Kept (fun q => q < B) w W → RGr W nv sv ov iv g
theorem RK.kept {B : Nat} {w W : World} {nv sv ov iv : Value} {g : Gr} (h : RK B w nv sv ov iv g) (hk : Kept (fun q => q < B) w W) : RK B W nv sv ov iv g := fun W' h' => h W' (hk.trans h')
theorem RK.below {B : Nat} {w W : World} {nv sv ov iv : Value} {g : Gr} (h : RK B w nv sv ov iv g) (hk : Below w.heap.size w W) : RK B W nv sv ov iv g := h.kept (Kept.of_below hk _)
theorem RK.now {B : Nat} {w : World} {nv sv ov iv : Value} {g : Gr} (h : RK B w nv sv ov iv g) : RGr w nv sv ov iv g := h w (Kept.refl _ _)
theorem RK.mono {B B' : Nat} {w : World} {nv sv ov iv : Value} {g : Gr} (h : RK B w nv sv ov iv g) (hb : B' ≤ B) : RK B' w nv sv ov iv g := fun W hk => h W (hk.mono fun q hq => by omega)
theorem rk_of {W : World} {B C : Nat} {d : Bool} {nv sv ov iv : Value} {g : Gr} {ls : List Value} (hN : NR W B C d nv g.nodes ls) (hS : W.ownsRow B 3 1 sv g.sites.length (ints g.sites)) (hO : W.ownsRow B 9 1 ov g.outer.length (strs g.outer)) (hI : W.ownsRow B 90 2 iv g.inner.length (g.inner.flatMap encWi)) (hs : SmallG g) : RK B W nv sv ov iv g := fun W' hk => by
  have n1 := hN.kept hk (fun q hq => by have := (hN.own.lt q hq).1; omega) (fun i l q hl hq => by obtain ⟨x, _, hx⟩ := hN.lkown hl; have := (hx.lt q hq).1; omega)
  have s1 := ownsK hS hk (fun q hq => by have := (hS.lt q hq).1; omega)
  have o1 := ownsK hO hk (fun q hq => by have := (hO.lt q hq).1; omega)
  have i1 := ownsK hI hk (fun q hq => by have := (hI.lt q hq).1; omega)
  obtain ⟨AS, cS, rfl, s2⟩ := owns_form s1
  obtain ⟨AO, cO, rfl, o2⟩ := owns_form o1
  exact { n := n1.rsl hs.nodes, s := ⟨AS, cS, rfl, Cells.of_owns s2⟩, o := ⟨AO, cO, rfl, Cells.of_owns o2⟩, i := wi_rsl i1 hs.inner }

/-- .. nor in block P + 1. -/
def RKP (B P : Nat) (w : World) (nv sv ov iv : Value) (g : Gr) : Prop := ∀ W, Kept (fun q => q < B ∨ q = P + 1) w W → RGr W nv sv ov iv g
def ZB : Array Value := #[.int .i64 0, .slice none 0 0, .slice none 0 0, .int .i64 0, .slice none 0 0, .slice none 0 0]
/-- The box P holds a bigraph that is small enough. -/
structure HD (w : World) (p B P : Nat) (A : Option Addr) (bs : List Int) (c K : Nat) (W : World) : Prop where
  k : Kept (fun q => q = p ∨ q = P ∨ B ≤ q) w W
  cur : Cur W p A bs c K
  ex : ∃ nv sv ov iv g, W.heap[P]? = some (.cells #[.int .i64 g.roots, nv, sv, .int .i64 g.edges, ov, iv] 31) ∧ RKP B P W nv sv ov iv g ∧ SmallG g

/-- .. and the box behind it is as it was laid. -/
structure HR (w : World) (p B P : Nat) (A : Option Addr) (bs : List Int) (c K : Nat) (W : World) : Prop where
  h : HD w p B P A bs c K W
  rb : W.heap[P + 1]? = some (.cells ZB 31)
section
variable {w W W' : World} {p B P C c K K' : Nat} {A : Option Addr} {bs : List Int} {d : Bool} {bx : Array Value} {X : BX}
end

end Go.Proofs.YtijkdpdmclkmlaaGreatDoor
