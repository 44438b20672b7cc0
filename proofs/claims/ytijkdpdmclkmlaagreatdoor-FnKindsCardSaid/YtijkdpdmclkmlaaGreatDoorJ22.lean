/- A bigraph that is being drawn, and the node that is being drawn for it. -/
import Derived.Test.YtijkdpdmclkmlaaGreatDoorProg
import Derived.Test.YtijkdpdmclkmlaaGreatDoorJ21
set_option linter.unusedSimpArgs false
set_option linter.unusedVariables false
namespace Go.Proofs.YtijkdpdmclkmlaaGreatDoor
open Go.RowKit

/-- The node in the box Q; C: how much memory there was when it was begun. -/
structure GX (w : World) (p B P C : Nat) (A : Option Addr) (bs : List Int) (c : Nat) (d : Bool) (bx : Array Value) (X : BX) (Q : Nat) (ct pa : Int) (lv : Value) (lks : List Int) (K : Nat) (W : World) : Prop where
  gs : GS w p B P C A bs c d bx X K W
  nx : W.heap[Q]? = some (.cells #[.int .i64 ct, .int .i64 pa, lv] 88)
  lk : W.ownsRow C 3 1 lv lks.length (ints lks)
  lt : C ≤ Q
  nv : ∀ g, X.nv.ownBlock = some g → g < C
  sv : X.sv = .slice none 0 0

section
variable {w W W' : World} {p B P C c K K' Q : Nat} {A : Option Addr} {bs : List Int} {d : Bool} {bx : Array Value} {X : BX} {ct pa : Int} {lv : Value} {lks : List Int}
theorem GX.mono (h : GX w p B P C A bs c d bx X Q ct pa lv lks K W) (hk : K ≤ K') : GX w p B P C A bs c d bx X Q ct pa lv lks K' W := { h with gs := h.gs.mono hk }
theorem GX.lay (h : GX w p B P C A bs c d bx X Q ct pa lv lks K W) (hb : Below W.heap.size W W') : GX w p B P C A bs c d bx X Q ct pa lv lks K W' :=
  { h with gs := h.gs.lay hb, nx := (hb.block Q (Array.getElem?_eq_some_iff.1 h.nx).1).trans h.nx, lk := owns_below h.lk hb (Nat.le_refl _) }
theorem GX.alloc (h : GX w p B P C A bs c d bx X Q ct pa lv lks K W) (o : Obj) : GX w p B P C A bs c d bx X Q ct pa lv lks K (W.alloc o) := h.lay ((Below.refl _ _).alloc (Nat.le_refl _) o)
theorem GX.drew (h : GX w p B P C A bs c d bx X Q ct pa lv lks K W) : GX w p B P C A bs c d bx X Q ct pa lv lks K W.drew := h.lay ((Below.refl _ _).drew)
theorem GX.draw (h : GX w p B P C A bs c d bx X Q ct pa lv lks K W) (hpB : p < B) (hBC : B ≤ C) (hpP : p < P) (hk : Kept (fun q => q = p) W W') (hC : Cur W' p A bs c K') : GX w p B P C A bs c d bx X Q ct pa lv lks K' W' := by
  have hl := h.lt
  exact { h with gs := h.gs.draw hpB hBC hpP hk hC, nx := (hk.block Q (Array.getElem?_eq_some_iff.1 h.nx).1 (by omega)).trans h.nx, lk := ownsK h.lk hk (fun g hg e => by have := (h.lk.lt g hg).1; omega) }
/-- The system stays where a block of the node's turns. -/
theorem GS.aside {T : Nat → Prop} (h : GS w p B P C A bs c d bx X K W) (hpB : p < B) (hBC : B ≤ C) (hPC : P < C) (hnv : ∀ g, X.nv.ownBlock = some g → g < C) (hO : ∀ g, X.ov.ownBlock = some g → ¬ T g) (hI : ∀ g, X.iv.ownBlock = some g → ¬ T g) (hsv : X.sv = .slice none 0 0) (hk : Kept T W W') (hT : ∀ q, T q → C ≤ q) : GS w p B P C A bs c d bx X K W' :=
  { k := h.k.trans (hk.mono fun b hb => .inr (.inr (by have := hT b hb; omega))), cur := h.cur.kept hk (fun q hq => by have := hT q hq; omega)
    box := (hk.block P (Array.getElem?_eq_some_iff.1 h.box).1 (fun e => by have := hT P e; omega)).trans h.box
    N := h.N.kept hk (fun g hg e => by have := hnv g hg; have := hT g e; omega) (fun i l g hl hg e => by have := h.N.lt i l g hl hg; have := hT g e; omega)
    S := ownsK h.S hk (fun g hg e => by rw [hsv] at hg; simp [Value.ownBlock] at hg)
    O := ownsK h.O hk hO, I := ownsK h.I hk hI }
/-- A field of the node is written. -/
theorem GX.putN {cs : Array Value} (h : GX w p B P C A bs c d bx X Q ct pa lv lks K W) (hpB : p < B) (hBC : B ≤ C) (hPC : P < C) (f : Nat) (u : Value) {ct2 pa2 : Int} (hc : (#[Value.int .i64 ct, .int .i64 pa, lv] : Array Value).setIfInBounds f u = #[.int .i64 ct2, .int .i64 pa2, lv]) : GX w p B P C A bs c d bx X Q ct2 pa2 lv lks K (W.setCell ⟨Q, f, none⟩ u) := by
  have hK : Kept (fun q => q = Q) W (W.setCell ⟨Q, f, none⟩ u) := (Kept.refl _ W).setCell (S := fun q => q = Q) (p := ⟨Q, f, none⟩) rfl _
  exact { gs := h.gs.aside hpB hBC hPC h.nv (fun g hg e => by subst e; exact ownsT h.gs.O h.nx (by decide) hg) (fun g hg e => by subst e; exact ownsT h.gs.I h.nx (by decide) hg) h.sv hK (fun q hq => by have := h.lt; omega)
          nx := by rw [← hc]; exact heap_setCell_same W Q f _ _ u h.nx
          lk := ownsK h.lk hK (fun g hg e => by subst e; exact ownsT h.lk h.nx (by decide) hg), lt := h.lt, nv := h.nv, sv := h.sv }
/-- The links' row has grown: the box still holds the old one. -/
theorem GX.appL {v : Value} {y : Int} (h : GX w p B P C A bs c d bx X Q ct pa lv lks K W) (hpB : p < B) (hBC : B ≤ C) (hPC : P < C) (ho : W'.ownsRow C 3 1 v (lks.length + 1) (ints lks ++ [.int .i64 y])) (hk : Kept (fun q => lv.ownBlock = some q) W W') :
    GS w p B P C A bs c d bx X K W' ∧ W'.heap[Q]? = some (.cells #[.int .i64 ct, .int .i64 pa, lv] 88) ∧ W'.ownsRow C 3 1 v (lks ++ [y]).length (ints (lks ++ [y])) ∧ C ≤ Q ∧ (∀ g, X.nv.ownBlock = some g → g < C) ∧ X.sv = .slice none 0 0 := by
  refine ⟨h.gs.aside hpB hBC hPC h.nv (fun g hg => ownsA h.gs.O h.lk (by decide) g hg) (fun g hg => ownsA h.gs.I h.lk (by decide) g hg) h.sv hk (fun q hq => (h.lk.lt q hq).1), (hk.block Q (Array.getElem?_eq_some_iff.1 h.nx).1 (fun e => ownsT h.lk h.nx (by decide) e)).trans h.nx, ?_, h.lt, h.nv, h.sv⟩
  rw [List.length_append, show ints (lks ++ [y]) = ints lks ++ [.int .i64 y] from by simp [ints]]
  exact ho
/-- .. and is stored. -/
theorem GX.putL {v : Value} {l2 : List Int} (h : GS w p B P C A bs c d bx X K W ∧ W.heap[Q]? = some (.cells #[.int .i64 ct, .int .i64 pa, lv] 88) ∧ W.ownsRow C 3 1 v l2.length (ints l2) ∧ C ≤ Q ∧ (∀ g, X.nv.ownBlock = some g → g < C) ∧ X.sv = .slice none 0 0) (hpB : p < B) (hBC : B ≤ C) (hPC : P < C) : GX w p B P C A bs c d bx X Q ct pa v l2 K (W.setCell ⟨Q, 2, none⟩ v) := by
  obtain ⟨hg, hq, ho, hlt, hnv, hsv⟩ := h
  have hK : Kept (fun q => q = Q) W (W.setCell ⟨Q, 2, none⟩ v) := (Kept.refl _ W).setCell (S := fun q => q = Q) (p := ⟨Q, 2, none⟩) rfl _
  exact { gs := hg.aside hpB hBC hPC hnv (fun g hg' e => by subst e; exact ownsT hg.O hq (by decide) hg') (fun g hg' e => by subst e; exact ownsT hg.I hq (by decide) hg') hsv hK (fun q hq => by omega)
          nx := heap_setCell_same W Q 2 _ _ v hq
          lk := ownsK ho hK (fun g hg e => by subst e; exact ownsT ho hq (by decide) hg), lt := hlt, nv := hnv, sv := hsv }
/-- The node is begun: its box, laid somewhere above, gets its first values. -/
theorem GX.first {cs : Array Value} (h : GS w p B P C A bs c d bx X K W) (hq : W.heap[Q]? = some (.cells cs 88)) (hcs : cs.size = 3) (hpB : p < B) (hBC : B ≤ C) (hPC : P < C) (hlt : C ≤ Q) (hnv : ∀ g, X.nv.ownBlock = some g → g < C) (hsv : X.sv = .slice none 0 0) :
    GX w p B P C A bs c d bx X Q ct pa (.slice none 0 0) [] K (((W.setCell ⟨Q, 0, none⟩ (.int .i64 ct)).setCell ⟨Q, 1, none⟩ (.int .i64 pa)).setCell ⟨Q, 2, none⟩ (.slice none 0 0)) := by
  have hK : Kept (fun q => q = Q) W (((W.setCell ⟨Q, 0, none⟩ (.int .i64 ct)).setCell ⟨Q, 1, none⟩ (.int .i64 pa)).setCell ⟨Q, 2, none⟩ (.slice none 0 0)) :=
    (((Kept.refl _ W).setCell (S := fun q => q = Q) (p := ⟨Q, 0, none⟩) rfl _).setCell (S := fun q => q = Q) (p := ⟨Q, 1, none⟩) rfl _).setCell (S := fun q => q = Q) (p := ⟨Q, 2, none⟩) rfl _
  have h1 := heap_setCell_same W Q 0 _ _ (.int .i64 ct) hq
  have h2 := heap_setCell_same _ Q 1 _ _ (.int .i64 pa) h1
  have h3 := heap_setCell_same _ Q 2 _ _ (.slice none 0 0) h2
  have e : ((cs.setIfInBounds 0 (.int .i64 ct)).setIfInBounds 1 (.int .i64 pa)).setIfInBounds 2 (.slice none 0 0) = #[.int .i64 ct, .int .i64 pa, .slice none 0 0] := by
    obtain ⟨l⟩ := cs
    match l, hcs with
    | [a, b, c], _ => rfl
  rw [e] at h3
  exact { gs := h.aside hpB hBC hPC hnv (fun g hg' e => by subst e; exact ownsT h.O hq (by decide) hg') (fun g hg' e => by subst e; exact ownsT h.I hq (by decide) hg') hsv hK (fun q hq => by omega)
          nx := h3, lk := none_row, lt := hlt, nv := hnv, sv := hsv }
end

end Go.Proofs.YtijkdpdmclkmlaaGreatDoor
