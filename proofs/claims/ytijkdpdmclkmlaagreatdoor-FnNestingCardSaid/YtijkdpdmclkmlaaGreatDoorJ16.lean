/- Plain: atoms, ions, substitutions, names, closures, identities, mergings: they are valid. Compares: slices.Equal at strings and inner names; two bigraphs of which the second has no nodes. A bigraph that is being drawn: what holds of the memory while it grows. -/
import Derived.Test.YtijkdpdmclkmlaaGreatDoorProg
import Derived.Test.YtijkdpdmclkmlaaGreatDoorJ8
import Derived.Test.YtijkdpdmclkmlaaGreatDoorJ0
import Derived.Test.YtijkdpdmclkmlaaGreatDoorJ15
import Derived.Test.YtijkdpdmclkmlaaGreatDoorJ14
import Derived.Deep.QuietTactic
import Derived.BigQuiet
import Derived.Test.YtijkdpdmclkmlaaGreatDoorJ1
import Derived.Test.YtijkdpdmclkmlaaGreatDoorJ13
import Derived.Test.YtijkdpdmclkmlaaGreatDoorJ2
set_option linter.unusedSimpArgs false
set_option linter.unusedVariables false
set_option maxRecDepth 100000
set_option maxHeartbeats 16000000
namespace Go.Proofs.YtijkdpdmclkmlaaGreatDoor
open Go.RowKit
theorem atS_lt : ∀ {l : List ByteArray} {s : ByteArray}, s ∈ l → atS l s < l.length
  | [], _, h => by simp at h
  | x :: l, s, h => by
    unfold atS
    split
    · simp
    rename_i hne
    have h2 : s ∈ l := by
      rcases List.mem_cons.1 h with h | h
      · exact absurd h.symm hne
      exact h
    have := atS_lt h2
    split
    · simp; omega
    simp; omega
section
variable {sig : List Ct} {names outs from_ tos : List ByteArray} {c : Int}
theorem id_good {n : Nat} (hs : sigB sig = true) (ho : namesB names = true) (h4 : n ≤ 4) : GoodP sig (idG n names) :=
  { sg := hs, r := ⟨by show (0 : Int) ≤ (n : Int); omega, by show (n : Int) ≤ 4; omega⟩, n8 := Nat.zero_le _, s4 := by simpa [idG] using h4, e := ⟨Int.le_refl _, by show (0 : Int) ≤ 8; decide⟩, on := ho, inn := by rw [idG_inner]; exact ho
    nod := fun i x hx => by simp [idG] at hx
    sit := fun p hp => by
      obtain ⟨i, hi, rfl⟩ := List.mem_map.1 hp
      have hi2 := List.mem_range.1 hi
      exact ⟨fun _ => by show -(n : Int) ≤ -1 - (i : Int); omega, fun h => by omega⟩
    inr := fun x hx => by
      obtain ⟨i, hi, rfl⟩ := List.mem_map.1 hx
      have hi2 := List.mem_range.1 hi
      exact ⟨by show (0 : Int) ≤ (i : Int); omega, by show (i : Int) < (0 : Int) + (names.length : Int); omega⟩ }
end

theorem eqWiG (a c : ByteArray) (b d : Int) (w : World) : (Op.equalIn 10000 90 (.agg #[.string a, .int .i64 b]) (.agg #[.string c, .int .i64 d])).run Tryz.prog w = .ok (a.toList == c.toList && b == d) w := by
  have u3 := Tryz.underlying3
  have a3 := Tryz.isAgg3
  have z3 := Tryz.sizeOf3
  have u9 := Tryz.underlying9
  have a9 := Tryz.isAgg9
  have z9 := Tryz.sizeOf9
  rw [show (10000 : Nat) = 9999 + 1 from rfl, Op.equalIn]
  simp only [Sem.run_bind, run_underlying Tryz.underlying90, Result.andThen_ok]
  have hs : Tryz.prog.stoodInHeld 90 = false := by kernel_rfl
  simp only [List.forIn_toArray, List.forIn_cons, List.forIn_nil]
  go_simp
  by_cases h1 : a.toList = c.toList <;> by_cases h2 : b = d <;> simp [h1, h2]
theorem decS_no {xs ys : List ByteArray} {k : Nat} (hk : k < xs.length) (h : xs.getD k default ≠ ys.getD k default) : decide (xs = ys) = false := decide_eq_false fun e => h (by rw [e])
theorem decS_yes {xs ys : List ByteArray} (hl : xs.length = ys.length) (h : ∀ j, j < xs.length → xs.getD j default = ys.getD j default) : decide (xs = ys) = true := decide_eq_true (by
  apply List.ext_getElem hl
  intro i h1 h2
  have := h i h1
  simpa [List.getD, h1, h2] using this)
theorem equalSG_any (A B : Option Addr) (c d : Nat) (xs ys : List ByteArray) (w : World) (hn : xs.length ≤ 16777216) (hm : ys.length ≤ 16777216) (hA : Cells w A (strs xs)) (hB : Cells w B (strs ys)) :
    Calls Tryz.prog 148 #[.slice A xs.length c, .slice B ys.length d] w fun e w' => e = .returned (.bool (decide (xs = ys))) ∧ Below w.heap.size w w' := by
  by_cases hl : xs.length = ys.length
  · have hl' : ((xs.length : Int) == (ys.length : Int)) = true := by simp [hl]
    have hl'' : ((xs.length : Int) != (ys.length : Int)) = false := by simp [hl]
    have HL := Lib.hid hl
    have HA := Lib.hid (show ∀ W, Below w.heap.size w W → Cells W A (strs xs) from fun W hb => hA.below hb)
    have HB := Lib.hid (show ∀ W, Below w.heap.size w W → Cells W B (strs ys) from fun W hb => hB.below hb)
    clear hl hA hB
    go_enter Tryz.func148, Tryz.ntmps148
    go_wp2_with fail
    go_loopw [13] (fun i wr => ∃ k : Nat, k ≤ xs.length ∧ i = .int .i64 k ∧ (∀ j, j < k → xs.getD j default = ys.getD j default) ∧ Below w.heap.size w wr) (fun i _ => xs.length - (intOf i).toNat)
    case atStart => exact ⟨0, Nat.zero_le _, rfl, fun j hj => by omega, Below.refl _ _⟩
    obtain ⟨k, hk, rfl, hall, hbel⟩ := hrel
    have HALL := Lib.hid hall
    have HZ := Lib.hid hbel
    clear hall
    by_cases hlt : k < xs.length
    · have hlt2 : k < ys.length := by have := HL.out; omega
      obtain ⟨b, o, rfl, hc⟩ := (HA.out wr hbel).str hlt
      obtain ⟨b', o', rfl, hc'⟩ := (HB.out wr hbel).str hlt2
      have c1 := hc k hlt
      have c2 := hc' k hlt2
      clear hc hc' hbel
      have HN := Lib.hid (fun h : xs.getD k default = ys.getD k default => show ∀ j, j < k + 1 → xs.getD j default = ys.getD j default from fun j hj => by
        rcases Nat.lt_succ_iff_lt_or_eq.1 hj with h' | h'
        · exact HALL.out j h'
        rw [h']; exact h)
      have HF := Lib.hid (fun h : xs.getD k default ≠ ys.getD k default => decS_no hlt h)
      obtain ⟨x, hx⟩ : ∃ x, x = xs.getD k default := ⟨_, rfl⟩
      obtain ⟨y, hy⟩ : ∃ y, y = ys.getD k default := ⟨_, rfl⟩
      rw [← hx] at c1 HN HF
      rw [← hy] at c2 HN HF
      clear hx hy
      have b0 : (0 : Int) ≤ (k : Int) := by omega
      have b1 : (k : Int) < (xs.length : Int) := by omega
      have b2 : (k : Int) < (ys.length : Int) := by omega
      by_cases he : x = y
      · have HNN := Lib.hid (HN.out he)
        subst he
        have hee := str_eq x
        go_wp2_with fail
        go_quiet (fail)
        go_wp2_with fail
        go_roundw
        case rel => exact ⟨k + 1, by omega, by go_num, HNN.out, below_drewN' HZ.out _⟩
        case measure => simp [intOf]; omega
      have HFF := Lib.hid (HF.out he)
      have hee := str_ne he
      clear he
      go_wp2_with fail
      go_quiet (fail)
      go_wp2_with fail
      go_ret
      exact ⟨by rw [HFF.out]; rfl, below_drewN' HZ.out _⟩
    obtain rfl : k = xs.length := by omega
    have HE := Lib.hid (decS_yes HL.out HALL.out)
    clear hbel
    go_wp2_with fail
    go_ret
    exact ⟨by rw [HE.out]; rfl, HZ.out⟩
  have hl' : ((xs.length : Int) == (ys.length : Int)) = false := by rw [beq_eq_false_iff_ne]; omega
  have hl'' : ((xs.length : Int) != (ys.length : Int)) = true := by rw [bne_iff_ne]; omega
  have HE := Lib.hid (show decide (xs = ys) = false from decide_eq_false fun e => hl (by rw [e]))
  clear hl hA hB
  go_enter Tryz.func148, Tryz.ntmps148
  go_wp2_with fail
  go_ret
  exact ⟨by rw [HE.out]; rfl, Below.refl _ _⟩

def ncells : List Nod → List Value → List Value
 | x :: ns, l :: ls => .int .i64 x.1 :: .int .i64 x.2.1 :: l :: ncells ns ls
 | _, _ => []
theorem ncells_len : ∀ {ns : List Nod} {ls : List Value}, ls.length = ns.length → (ncells ns ls).length = ns.length * 3
 | [], [], _ => rfl
 | [], _ :: _, h => by simp at h
 | _ :: _, [], h => by simp at h
 | x :: ns, l :: ls, h => by
  have := ncells_len (ns := ns) (ls := ls) (by simpa using h)
  simp only [ncells, List.length_cons]
  omega
theorem ncells_app : ∀ {ns : List Nod} {ls : List Value} (x : Nod) (l : Value), ls.length = ns.length → ncells (ns ++ [x]) (ls ++ [l]) = ncells ns ls ++ [.int .i64 x.1, .int .i64 x.2.1, l]
 | [], [], x, l, _ => rfl
 | [], _ :: _, _, _, h => by simp at h
 | _ :: _, [], _, _, h => by simp at h
 | y :: ns, m :: ls, x, l, h => by
  simp only [List.cons_append, ncells, ncells_app x l (show ls.length = ns.length by simpa using h)]

/-- The nodes' row: their links in rows of their own, below C; d: no two of them share a block. -/
structure NR (W : World) (B C : Nat) (d : Bool) (nv : Value) (ns : List Nod) (ls : List Value) : Prop where
 own : W.ownsRow B 88 3 nv ns.length (ncells ns ls)
 len : ls.length = ns.length
 lk : ∀ (i : Nat) l x, ls[i]? = some l → ns[i]? = some x → W.ownsRow B 3 1 l x.2.2.length (ints x.2.2)
 lt : ∀ (i : Nat) l b, ls[i]? = some l → l.ownBlock = some b → b < C
 dis : d = true → ∀ (i j : Nat) l l' b, i < j → ls[i]? = some l → ls[j]? = some l' → l.ownBlock = some b → l'.ownBlock ≠ some b

structure BX where
 r : Int
 e : Int
 nv : Value
 sv : Value
 ov : Value
 iv : Value
 ns : List Nod
 ls : List Value
 ss : List Int
 os : List ByteArray
 is : List Wi

def BX.cells (X : BX) : Array Value := #[.int .i64 X.r, X.nv, X.sv, .int .i64 X.e, X.ov, X.iv]
def BX.g (X : BX) : Gr := ⟨X.r, X.ns, X.ss, X.e, X.os, X.is⟩

/-- The bigraph whose struct lies in the box P (cells bx); only what lies at B and above, and the cursor, has turned. -/
structure GS (w : World) (p B P C : Nat) (A : Option Addr) (bs : List Int) (c : Nat) (d : Bool) (bx : Array Value) (X : BX) (K : Nat) (W : World) : Prop where
 k : Kept (fun q => q = p ∨ q = P ∨ B ≤ q) w W
 cur : Cur W p A bs c K
 box : W.heap[P]? = some (.cells bx 31)
 N : NR W B C d X.nv X.ns X.ls
 S : W.ownsRow C 3 1 X.sv X.ss.length (ints X.ss)
 O : W.ownsRow B 9 1 X.ov X.os.length (strs X.os)
 I : W.ownsRow B 90 2 X.iv X.is.length (X.is.flatMap encWi)

section
variable {W W' : World} {B C : Nat} {d : Bool} {nv : Value} {ns : List Nod} {ls : List Value}
theorem NR.kept {T : Nat → Prop} (h : NR W B C d nv ns ls) (hk : Kept T W W') (h1 : ∀ g, nv.ownBlock = some g → ¬ T g) (h2 : ∀ (i : Nat) l g, ls[i]? = some l → l.ownBlock = some g → ¬ T g) : NR W' B C d nv ns ls :=
  { h with own := ownsK h.own hk h1, lk := fun i l x hl hx => ownsK (h.lk i l x hl hx) hk (h2 i l · hl) }
theorem NR.lkown (h : NR W B C d nv ns ls) {i : Nat} {l : Value} (hl : ls[i]? = some l) : ∃ x, ns[i]? = some x ∧ W.ownsRow B 3 1 l x.2.2.length (ints x.2.2) := by
 have hi := (List.getElem?_eq_some_iff.1 hl).1
 have hx : ns[i]? = some (ns[i]'(by rw [← h.len]; exact hi)) := List.getElem?_eq_getElem _
 exact ⟨_, hx, h.lk i l _ hl hx⟩
theorem ncells_at : ∀ {ns : List Nod} {ls : List Value} {i : Nat} {x : Nod} {l : Value}, ns[i]? = some x → ls[i]? = some l → (ncells ns ls)[i * 3]? = some (.int .i64 x.1) ∧ (ncells ns ls)[i * 3 + 1]? = some (.int .i64 x.2.1) ∧ (ncells ns ls)[i * 3 + 2]? = some l
 | [], _, _, _, _, h, _ => by simp at h
 | _ :: _, [], _, _, _, _, h => by simp at h
 | y :: ns, m :: ls, 0, x, l, h1, h2 => by
  simp at h1 h2
  subst h1
  subst h2
  exact ⟨rfl, rfl, rfl⟩
 | y :: ns, m :: ls, i + 1, x, l, h1, h2 => by
  have := ncells_at (ns := ns) (ls := ls) (i := i) (by simpa using h1) (by simpa using h2)
  rw [show (i + 1) * 3 = i * 3 + 3 by omega]
  exact this
/-- The cells of a node. -/
theorem NR.cells (h : NR W B C d nv ns ls) {i : Nat} (hi : i < ns.length) : ∃ g c l, nv = .slice (some ⟨g, 0, none⟩) ns.length c ∧ ls[i]? = some l ∧ W.cell? ⟨g, i * 3, none⟩ = some (.int .i64 (ns[i]).1) ∧ W.cell? ⟨g, i * 3 + 1, none⟩ = some (.int .i64 (ns[i]).2.1) ∧ W.cell? ⟨g, i * 3 + 2, none⟩ = some l := by
 have hl : ls[i]? = some (ls[i]'(by rw [h.len]; exact hi)) := List.getElem?_eq_getElem _
 obtain ⟨a1, a2, a3⟩ := ncells_at (List.getElem?_eq_getElem hi) hl
 have ho := h.own
 rcases ho.2 with ⟨_, e⟩ | ⟨g, c, cur, rfl, _⟩
 ·omega
 have hc := fun j u => ho.cells (g := g) rfl j u
 have e : ∀ j, (⟨g, 0, none⟩ : Addr).add j = ⟨g, j, none⟩ := fun j => by simp [Addr.add, eq_comm]
 exact ⟨g, c, _, rfl, hl, by rw [← e]; exact hc _ _ a1, by rw [← e]; exact hc _ _ a2, by rw [← e]; exact hc _ _ a3⟩
/-- Another row has grown. -/
theorem NR.other {B2 s2 n2 : Nat} {e2 : TypeId} {u : Value} {xs2 : List Value} (h : NR W B C d nv ns ls) (ho : W.ownsRow B2 e2 s2 u n2 xs2) (h1 : 88 ≠ e2) (h2 : 3 ≠ e2 ∨ C ≤ B2) (hk : Kept (fun q => u.ownBlock = some q) W W') : NR W' B C d nv ns ls :=
 h.kept hk (fun g hg => ownsA h.own ho h1 g hg) (fun i l g hl hg e => by
  rcases h2 with h2 | h2
  ·obtain ⟨x, _, hx⟩ := h.lkown hl
   exact ownsA hx ho h2 g hg e
  have := h.lt i l g hl hg
  have := (ho.lt g e).1
  omega)
theorem NR.up {C' : Nat} (h : NR W B C d nv ns ls) (hc : C ≤ C') : NR W B C' d nv ns ls := { h with lt := fun i l b h1 h2 => Nat.lt_of_lt_of_le (h.lt i l b h1 h2) hc }
/-- A node more, whose links lie at C and above. -/
theorem NR.push {C' : Nat} {v2 : Value} {x : Nod} {l : Value} (h : NR W B C d nv ns ls) (hBC : B ≤ C) (hx : W.ownsRow C 3 1 l x.2.2.length (ints x.2.2)) (hC : W.heap.size ≤ C') (hk : Kept (fun q => nv.ownBlock = some q) W W') (ho : W'.ownsRow B 88 3 v2 (ns.length + 1) (ncells ns ls ++ [.int .i64 x.1, .int .i64 x.2.1, l])) : NR W' B C' d v2 (ns ++ [x]) (ls ++ [l]) := by
 have hlen := h.len
 refine { own := by rw [List.length_append, ncells_app x l h.len]; exact ho, len := by simp [h.len], lk := fun i m y hm hy => ?_, lt := fun i m b hm hb => ?_, dis := fun hd i j m m' b hij hm hm' hb => ?_ }
 ·rcases Nat.lt_trichotomy i ls.length with hi | hi | hi
  ·rw [List.getElem?_append_left hi] at hm
   rw [List.getElem?_append_left (by omega)] at hy
   have ha := h.lk i m y hm hy
   exact ownsK ha hk (fun g hg => ownsA ha h.own (by decide) g hg)
  ·subst hi
   rw [List.getElem?_append_right (Nat.le_refl _), Nat.sub_self] at hm
   rw [hlen, List.getElem?_append_right (Nat.le_refl _), Nat.sub_self] at hy
   simp at hm hy
   subst hm
   subst hy
   exact ownsK (owns_mono hx hBC) hk (fun g hg => ownsA hx h.own (by decide) g hg)
  rw [List.getElem?_eq_none (by simp; omega)] at hm
  cases hm
 ·rcases Nat.lt_trichotomy i ls.length with hi | hi | hi
  ·rw [List.getElem?_append_left hi] at hm
   obtain ⟨y, _, hy⟩ := h.lkown hm
   exact Nat.lt_of_lt_of_le (hy.lt b hb).2 hC
  ·subst hi
   rw [List.getElem?_append_right (Nat.le_refl _), Nat.sub_self] at hm
   simp at hm
   subst hm
   exact Nat.lt_of_lt_of_le (hx.lt b hb).2 hC
  rw [List.getElem?_eq_none (by simp; omega)] at hm
  cases hm
 have hj : j ≤ ls.length := by
  have := (List.getElem?_eq_some_iff.1 hm').1
  simp at this
  omega
 rw [List.getElem?_append_left (by omega)] at hm
 rcases Nat.lt_or_eq_of_le hj with hj | hj
 ·rw [List.getElem?_append_left hj] at hm'
  exact h.dis hd i j m m' b hij hm hm' hb
 subst hj
 rw [List.getElem?_append_right (Nat.le_refl _), Nat.sub_self] at hm'
 simp at hm'
 subst hm'
 have h1 := h.lt i m b hm hb
 intro e
 have := (hx.lt b e).1
 omega
end

section
variable {w W W' : World} {p B P C c K K' : Nat} {A : Option Addr} {bs : List Int} {d : Bool} {bx : Array Value} {X : BX}
theorem GS.lt (h : GS w p B P C A bs c d bx X K W) : p < W.heap.size := h.cur.lt
theorem GS.mono (h : GS w p B P C A bs c d bx X K W) (hk : K ≤ K') : GS w p B P C A bs c d bx X K' W := { h with cur := h.cur.mono hk }
theorem GS.lay (h : GS w p B P C A bs c d bx X K W) (hb : Below W.heap.size W W') : GS w p B P C A bs c d bx X K W' :=
  { k := h.k.trans (Kept.of_below hb _), cur := h.cur.below hb, box := (hb.block P (Array.getElem?_eq_some_iff.1 h.box).1).trans h.box
    N := h.N.kept (Kept.of_below hb (fun _ => False)) (fun _ _ k => k) (fun _ _ _ _ _ k => k)
    S := owns_below h.S hb (Nat.le_refl _), O := owns_below h.O hb (Nat.le_refl _), I := owns_below h.I hb (Nat.le_refl _) }
theorem GS.alloc (h : GS w p B P C A bs c d bx X K W) (o : Obj) : GS w p B P C A bs c d bx X K (W.alloc o) := h.lay ((Below.refl _ _).alloc (Nat.le_refl _) o)
theorem GS.drew (h : GS w p B P C A bs c d bx X K W) : GS w p B P C A bs c d bx X K W.drew := h.lay ((Below.refl _ _).drew)
theorem GS.draw (h : GS w p B P C A bs c d bx X K W) (hpB : p < B) (hBC : B ≤ C) (hpP : p < P) (hk : Kept (fun q => q = p) W W') (hC : Cur W' p A bs c K') : GS w p B P C A bs c d bx X K' W' :=
  { k := h.k.trans (hk.mono fun b hb => .inl hb), cur := hC, box := (hk.block P (Array.getElem?_eq_some_iff.1 h.box).1 (by omega)).trans h.box
    N := h.N.kept hk (fun g hg e => by have := (h.N.own.lt g hg).1; omega) (fun i l g hl hg e => by obtain ⟨x, _, hx⟩ := h.N.lkown hl; have := (hx.lt g hg).1; omega)
    S := ownsK h.S hk (fun g hg e => by have := (h.S.lt g hg).1; omega), O := ownsK h.O hk (fun g hg e => by have := (h.O.lt g hg).1; omega), I := ownsK h.I hk (fun g hg e => by have := (h.I.lt g hg).1; omega) }
/-- A field of the box is written. -/
theorem GS.put (h : GS w p B P C A bs c d bx X K W) (hpB : p < B) (hpP : p < P) (f : Nat) (u : Value) : GS w p B P C A bs c d (bx.setIfInBounds f u) X K (W.setCell ⟨P, f, none⟩ u) := by
  have hK : Kept (fun q => q = P) W (W.setCell ⟨P, f, none⟩ u) := (Kept.refl _ W).setCell (S := fun q => q = P) (p := ⟨P, f, none⟩) rfl _
  exact { k := h.k.trans (hK.mono fun b hb => .inr (.inl hb)), cur := h.cur.kept hK (fun q hq => by omega), box := heap_setCell_same W P f _ _ u h.box
          N := h.N.kept hK (fun g hg e => by subst e; exact ownsT h.N.own h.box (by decide) hg) (fun i l g hl hg e => by obtain ⟨x, _, hx⟩ := h.N.lkown hl; subst e; exact ownsT hx h.box (by decide) hg)
          S := ownsK h.S hK (fun g hg e => by subst e; exact ownsT h.S h.box (by decide) hg), O := ownsK h.O hK (fun g hg e => by subst e; exact ownsT h.O h.box (by decide) hg), I := ownsK h.I hK (fun g hg e => by subst e; exact ownsT h.I h.box (by decide) hg) }
/-- The row of outer names has grown. -/
theorem GS.appO {v : Value} {s : ByteArray} (h : GS w p B P C A bs c d bx X K W) (hpB : p < B) (ho : W'.ownsRow B 9 1 v (X.os.length + 1) (strs X.os ++ [.string s])) (hk : Kept (fun q => X.ov.ownBlock = some q) W W') : GS w p B P C A bs c d bx { X with ov := v, os := X.os ++ [s] } K W' :=
  { k := h.k.trans (hk.mono fun b hb => .inr (.inr (h.O.lt b hb).1)), cur := h.cur.kept hk (fun q hq => by have := (h.O.lt q hq).1; omega), box := (hk.block P (Array.getElem?_eq_some_iff.1 h.box).1 (fun e => ownsT h.O h.box (by decide) e)).trans h.box
    N := h.N.other h.O (by decide) (.inl (by decide)) hk, S := ownsK h.S hk (fun g hg => ownsA h.S h.O (by decide) g hg)
    O := by
      show W'.ownsRow B 9 1 v (X.os ++ [s]).length (strs (X.os ++ [s]))
      rw [List.length_append, show strs (X.os ++ [s]) = strs X.os ++ [.string s] from by simp [strs]]
      exact ho
    I := ownsK h.I hk (fun g hg => ownsA h.I h.O (by decide) g hg) }
theorem GS.appI {v : Value} {x : Wi} (h : GS w p B P C A bs c d bx X K W) (hpB : p < B) (ho : W'.ownsRow B 90 2 v (X.is.length + 1) (X.is.flatMap encWi ++ [.string x.1, .int .i64 x.2])) (hk : Kept (fun q => X.iv.ownBlock = some q) W W') : GS w p B P C A bs c d bx { X with iv := v, is := X.is ++ [x] } K W' :=
  { k := h.k.trans (hk.mono fun b hb => .inr (.inr (h.I.lt b hb).1)), cur := h.cur.kept hk (fun q hq => by have := (h.I.lt q hq).1; omega), box := (hk.block P (Array.getElem?_eq_some_iff.1 h.box).1 (fun e => ownsT h.I h.box (by decide) e)).trans h.box
    N := h.N.other h.I (by decide) (.inl (by decide)) hk, S := ownsK h.S hk (fun g hg => ownsA h.S h.I (by decide) g hg), O := ownsK h.O hk (fun g hg => ownsA h.O h.I (by decide) g hg)
    I := by
      show W'.ownsRow B 90 2 v (X.is ++ [x]).length ((X.is ++ [x]).flatMap encWi)
      rw [List.length_append, List.flatMap_append]
      exact ho }
theorem GS.appS {v : Value} {x : Int} (h : GS w p B P C A bs c d bx X K W) (hpB : p < B) (hBC : B ≤ C) (ho : W'.ownsRow C 3 1 v (X.ss.length + 1) (ints X.ss ++ [.int .i64 x])) (hk : Kept (fun q => X.sv.ownBlock = some q) W W') : GS w p B P C A bs c d bx { X with sv := v, ss := X.ss ++ [x] } K W' :=
  { k := h.k.trans (hk.mono fun b hb => .inr (.inr (by have := (h.S.lt b hb).1; omega))), cur := h.cur.kept hk (fun q hq => by have := (h.S.lt q hq).1; omega), box := (hk.block P (Array.getElem?_eq_some_iff.1 h.box).1 (fun e => ownsT h.S h.box (by decide) e)).trans h.box
    N := h.N.other h.S (by decide) (.inr (Nat.le_refl _)) hk
    S := by
      show W'.ownsRow C 3 1 v (X.ss ++ [x]).length (ints (X.ss ++ [x]))
      rw [List.length_append, show ints (X.ss ++ [x]) = ints X.ss ++ [.int .i64 x] from by simp [ints]]
      exact ho
    O := ownsK h.O hk (fun g hg => ownsA h.O h.S (by decide) g hg), I := ownsK h.I hk (fun g hg => ownsA h.I h.S (by decide) g hg) }
/-- The row of nodes has grown. -/
theorem GS.appN {C' : Nat} {v : Value} {x : Nod} {l : Value} (h : GS w p B P C A bs c d bx X K W) (hpB : p < B) (hBC : B ≤ C) (hx : W.ownsRow C 3 1 l x.2.2.length (ints x.2.2)) (hC : W.heap.size ≤ C') (hsv : X.sv = .slice none 0 0) (hss : X.ss = []) (ho : W'.ownsRow B 88 3 v (X.ns.length + 1) (ncells X.ns X.ls ++ [.int .i64 x.1, .int .i64 x.2.1, l])) (hk : Kept (fun q => X.nv.ownBlock = some q) W W') : GS w p B P C' A bs c d bx { X with nv := v, ns := X.ns ++ [x], ls := X.ls ++ [l] } K W' :=
  { k := h.k.trans (hk.mono fun b hb => .inr (.inr (h.N.own.lt b hb).1)), cur := h.cur.kept hk (fun q hq => by have := (h.N.own.lt q hq).1; omega), box := (hk.block P (Array.getElem?_eq_some_iff.1 h.box).1 (fun e => ownsT h.N.own h.box (by decide) e)).trans h.box
    N := h.N.push hBC hx hC hk ho
    S := by
      show W'.ownsRow C' 3 1 X.sv X.ss.length (ints X.ss)
      rw [hsv, hss]; exact none_row
    O := ownsK h.O hk (fun g hg => ownsA h.O h.N.own (by decide) g hg), I := ownsK h.I hk (fun g hg => ownsA h.I h.N.own (by decide) g hg) }
/-- Where the nodes' links end, told anew (no sites yet). -/
theorem GS.up {C' : Nat} (h : GS w p B P C A bs c d bx X K W) (hC : C ≤ C') (hsv : X.sv = .slice none 0 0) (hss : X.ss = []) : GS w p B P C' A bs c d bx X K W :=
  { h with N := h.N.up hC, S := by rw [hsv, hss]; exact none_row }
/-- A cell of the box. -/
theorem GS.cell (h : GS w p B P C A bs c d bx X K W) {f : Nat} {u : Value} (hf : bx[f]? = some u) : W.cell? ⟨P, f, none⟩ = some u := (cell_of_row W P f _ _ _ h.box).trans hf
end

end Go.Proofs.YtijkdpdmclkmlaaGreatDoor
