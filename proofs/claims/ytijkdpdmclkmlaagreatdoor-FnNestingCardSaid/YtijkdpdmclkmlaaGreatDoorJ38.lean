/- Rows of a bigraph that is built at once, each with the set of blocks that it holds. No function is in sight. A bigraph's struct that is built of its six fields, in one step. No program's function is in sight. -/
import Derived.Test.YtijkdpdmclkmlaaGreatDoorJ37
import Derived.Test.YtijkdpdmclkmlaaGreatDoorJ36
import Derived.Test.YtijkdpdmclkmlaaGreatDoorJ10
import Derived.Laws.Tables
set_option linter.unusedSimpArgs false
set_option linter.unusedVariables false
set_option maxRecDepth 100000
set_option maxHeartbeats 16000000
namespace Go.Proofs.YtijkdpdmclkmlaaGreatDoor
open Go.RowKit
theorem ints_cat (a b : List Int) : ints (a ++ b) = ints a ++ ints b := by simp [ints]
theorem ints_size (a : List Int) : (ints a).length = a.length * 1 := by simp [ints]
theorem strs_size (a : List ByteArray) : (strs a).length = a.length * 1 := by simp [strs]
theorem ints_cell1 (a : List Int) : ∀ u ∈ ints a, u.oneCell' = true := by
  intro u hu; obtain ⟨x, _, rfl⟩ := List.mem_map.1 hu; rfl
theorem strs_cell1 (a : List ByteArray) : ∀ u ∈ strs a, u.oneCell' = true := by
  intro u hu; obtain ⟨x, _, rfl⟩ := List.mem_map.1 hu; rfl
theorem ncells_cat : ∀ {ns : List Nod} {ls : List Value} (ms : List Nod) (ks : List Value), ls.length = ns.length → ncells (ns ++ ms) (ls ++ ks) = ncells ns ls ++ ncells ms ks
  | [], [], _, _, _ => rfl
  | [], _ :: _, _, _, h => by simp at h
  | _ :: _, [], _, _, h => by simp at h
  | y :: ns, m :: ls, ms, ks, h => by
    simp only [List.cons_append, ncells, ncells_cat ms ks (show ls.length = ns.length by simpa using h)]
/-- The nodes' row, all its blocks among F. -/
structure NTF (W : World) (N : Nat) (F : Nat → Prop) (nv : Value) (ns : List Nod) (ls : List Value) : Prop where
  nt : NT W N nv nilV ns ls
  fv : ∀ b, nv.ownBlock = some b → F b
  fl : ∀ (i : Nat) l b, ls[i]? = some l → l.ownBlock = some b → F b
section
variable {W W' : World} {N q s t : Nat} {T G : Nat → Prop} {src : Nat → List Nat} {F : Nat → Nat → Prop} {nv u v' : Value} {ns ms : List Nod} {ls ks : List Value}
theorem NTF.kept (h : NTF W N G nv ns ls) (hk : Kept T W W') (hT : ∀ b, T b → ¬ G b) : NTF W' N G nv ns ls :=
  { h with nt := h.nt.kept hk (fun g hg ht => hT g ht (h.fv g hg)) (fun i l g hl hg ht => hT g ht (h.fl i l g hl hg)) }
theorem NT.linkRow (h : NT W N nv nilV ns ls) {i : Nat} {l : Value} (hl : ls[i]? = some l) {b : Nat} (hb : l.ownBlock = some b) : N ≤ b ∧ b < W.heap.size := by
  obtain ⟨x, _, hx⟩ := h.lkown hl
  exact hx.lt b hb
theorem NTF.new (h : NT W' W.heap.size nv nilV ns ls) (hN : N ≤ W.heap.size) : NTF W' N (newF src F q W W') nv ns ls :=
  { nt := h.mono hN, fv := fun b hb => .inr (h.own.lt b hb), fl := fun i l b hl hb => .inr (h.linkRow hl hb) }
theorem NTF.cat (h : NTF W N (F s) nv ns ls) (k : NTF W N (F t) u ms ks) (hd : ∀ b, F s b → F t b → False) (ho : W'.ownsRow N 88 3 v' (ns.length + ms.length) (ncells ns ls ++ ncells ms ks)) (hk : Kept (fun b => nv.ownBlock = some b) W W') (hm : Moved W nv v') (hs : s ∈ src q) (ht : t ∈ src q) :
    NTF W' N (newF src F q W W') v' (ns ++ ms) (ls ++ ks) := by
  have hlen := h.nt.len
  have hA : ∀ (i : Nat) m y, ls[i]? = some m → ns[i]? = some y → W'.ownsRow N 3 1 m y.2.2.length (ints y.2.2) := fun i m y hm hy => by
    have h1 := h.nt.lk i m y hm hy
    exact ownsK h1 hk (fun g hg => ownsA h1 h.nt.own (by decide) g hg)
  have hB : ∀ (i : Nat) m y, ks[i]? = some m → ms[i]? = some y → W'.ownsRow N 3 1 m y.2.2.length (ints y.2.2) := fun i m y hm hy => by
    have h1 := k.nt.lk i m y hm hy
    exact ownsK h1 hk (fun g hg => ownsA h1 h.nt.own (by decide) g hg)
  refine { nt := { own := by rw [List.length_append, ncells_cat ms ks hlen]; exact ho, len := by rw [List.length_append, List.length_append, hlen, k.nt.len], lk := fun i m y hm hy => ?_, dis := fun i j m m' b hij hm hm' hb => ?_, sep := fun i m b hm hb e => (by cases e) }, fv := fun b hb => ?_, fl := fun i m b hm hb => ?_ }
  · by_cases hi : i < ls.length
    · rw [List.getElem?_append_left hi] at hm
      rw [List.getElem?_append_left (by omega)] at hy
      exact hA i m y hm hy
    rw [List.getElem?_append_right (by omega)] at hm
    rw [List.getElem?_append_right (by omega), ← hlen] at hy
    exact hB _ m y hm hy
  · by_cases hi : i < ls.length
    · rw [List.getElem?_append_left hi] at hm
      by_cases hj : j < ls.length
      · rw [List.getElem?_append_left hj] at hm'
        exact h.nt.dis i j m m' b hij hm hm' hb
      rw [List.getElem?_append_right (by omega)] at hm'
      exact fun e => hd b (h.fl i m b hm hb) (k.fl _ m' b hm' e)
    rw [List.getElem?_append_right (by omega)] at hm hm'
    exact k.nt.dis _ _ m m' b (by omega) hm hm' hb
  · rcases hm b hb with h1 | h1
    · exact .inl ⟨s, hs, h.fv b h1⟩
    exact .inr ⟨h1, (ho.lt b hb).2⟩
  by_cases hi : i < ls.length
  · rw [List.getElem?_append_left hi] at hm
    exact .inl ⟨s, hs, h.fl i m b hm hb⟩
  rw [List.getElem?_append_right (by omega)] at hm
  exact .inl ⟨t, ht, k.fl _ m b hm hb⟩
theorem NTF.from_ (h : NTF W N (F s) nv ns ls) (hk : Kept (fun b => nv.ownBlock = some b) W W') (hs : s ∈ src q) : Kept (srcF src F q) W W' := hk.mono fun b hb => ⟨s, hs, h.fv b hb⟩
theorem NTF.form (h : NTF W N G nv ns ls) : ∃ A c, nv = .slice A ns.length c := by
  obtain ⟨A, c, h1, _⟩ := owns_form h.nt.own
  exact ⟨A, c, h1⟩
end
theorem ncells_cell1 {W : World} {N : Nat} {nv : Value} {ns : List Nod} {ls : List Value} (h : NT W N nv nilV ns ls) : ∀ u ∈ ncells ns ls, u.oneCell' = true := by
  have key : ∀ (ns : List Nod) (ls : List Value), (∀ l ∈ ls, l.oneCell' = true) → ∀ u ∈ ncells ns ls, u.oneCell' = true := by
    intro ns
    induction ns with
    | nil => intro ls _ u hu; cases ls <;> simp [ncells] at hu
    | cons x ns ih =>
      intro ls hl u hu
      cases ls with
      | nil => simp [ncells] at hu
      | cons l ls =>
        simp only [ncells, List.mem_cons] at hu
        rcases hu with rfl | rfl | rfl | hu
        · rfl
        · rfl
        · exact hl _ (List.mem_cons_self ..)
        exact ih ls (fun m hm => hl m (List.mem_cons_of_mem _ hm)) u hu
  refine key ns ls fun l hl => ?_
  obtain ⟨i, hi, rfl⟩ := List.getElem_of_mem hl
  obtain ⟨x, _, hx⟩ := h.lkown (List.getElem?_eq_getElem hi)
  obtain ⟨A, c, e, _⟩ := owns_form hx
  rw [e]; rfl
/-- A bigraph's rows, all their blocks among F. -/
structure OBF (W : World) (N : Nat) (F : Nat → Prop) (X : BX) : Prop where
  ob : OB W N X
  fn : ∀ b, X.nv.ownBlock = some b → F b
  fk : ∀ (i : Nat) l b, X.ls[i]? = some l → l.ownBlock = some b → F b
  fs : ∀ b, X.sv.ownBlock = some b → F b
  fo : ∀ b, X.ov.ownBlock = some b → F b
  fi : ∀ b, X.iv.ownBlock = some b → F b
theorem OBF.kept {W W' : World} {N : Nat} {T F : Nat → Prop} {X : BX} (h : OBF W N F X) (hk : Kept T W W') (hT : ∀ b, T b → ¬ F b) : OBF W' N F X :=
  { h with ob := { N := h.ob.N.kept hk (fun g hg ht => hT g ht (h.fn g hg)) (fun i l g hl hg ht => hT g ht (h.fk i l g hl hg)), S := ownsK h.ob.S hk (fun g hg ht => hT g ht (h.fs g hg)), O := ownsK h.ob.O hk (fun g hg ht => hT g ht (h.fo g hg)), I := ownsK h.ob.I hk (fun g hg ht => hT g ht (h.fi g hg)) } }
theorem OBF.mk4 {W : World} {N q i j k l : Nat} {src : Nat → List Nat} {F : Nat → Nat → Prop} {r e : Int} {nv sv ov iv : Value} {ns : List Nod} {ls : List Value} {ss : List Int} {os : List ByteArray} {is : List Wi}
    (hN : NTF W N (F i) nv ns ls) (hS : OwnF W N (F j) 3 1 sv ss.length (ints ss)) (hO : OwnF W N (F k) 9 1 ov os.length (strs os)) (hI : OwnF W N (F l) 90 2 iv is.length (is.flatMap encWi)) (hd : ∀ b, F i b → F j b → False)
    (hi : i ∈ src q) (hj : j ∈ src q) (hk : k ∈ src q) (hl : l ∈ src q) : OBF W N (newF src F q W W) ⟨r, e, nv, sv, ov, iv, ns, ls, ss, os, is⟩ :=
  { ob := { N := { hN.nt with sep := fun x m b hm hb e => hd b (hN.fl x m b hm hb) (hS.2 b e) }, S := hS.1, O := hO.1, I := hI.1 }
    fn := fun b hb => .inl ⟨i, hi, hN.fv b hb⟩
    fk := fun x m b hm hb => .inl ⟨i, hi, hN.fl x m b hm hb⟩
    fs := fun b hb => .inl ⟨j, hj, hS.2 b hb⟩
    fo := fun b hb => .inl ⟨k, hk, hO.2 b hb⟩
    fi := fun b hb => .inl ⟨l, hl, hI.2 b hb⟩ }

theorem run_build6 (w : World) (r e : Int) (A1 A2 A3 A4 : Option Addr) (n1 n2 n3 n4 c1 c2 c3 c4 : Nat) :
    Sem.run Tryz.prog (Instr.build 31 #[(0, .int .i64 r), (1, .slice A1 n1 c1), (2, .slice A2 n2 c2), (3, .int .i64 e), (4, .slice A3 n3 c3), (5, .slice A4 n4 c4)]) w = .ok (.agg #[.int .i64 r, .slice A1 n1 c1, .slice A2 n2 c2, .int .i64 e, .slice A3 n3 c3, .slice A4 n4 c4]) w :=
  run_build w 31 _ _ (by kernel_rfl)
theorem eval_at {a : Act} {i : Tmp} {v : Value} (h : a.tmps[i]? = some v) : a.eval (.tmp i) = v := by simp [Act.eval, h]
theorem step_build6 {Y} {K : Act → World → Prop} {G : Prop} {Q : Exit → Act → World → Prop} {a : Act} {W : World} {o : Oper} {x0 x1 x2 x3 x4 x5 : Operand} {r e : Int} {A1 A2 A3 A4 : Option Addr} {n1 n2 n3 n4 c1 c2 c3 c4 : Nat} (hgd : o.guard = none) (ho : o.op = .build 31 #[(0, x0), (1, x1), (2, x2), (3, x3), (4, x4), (5, x5)])
    (h0 : a.eval x0 = .int .i64 r) (h1 : a.eval x1 = .slice A1 n1 c1) (h2 : a.eval x2 = .slice A2 n2 c2) (h3 : a.eval x3 = .int .i64 e) (h4 : a.eval x4 = .slice A3 n3 c3) (h5 : a.eval x5 = .slice A4 n4 c4)
    (h : K (a.put o.dst (.agg #[.int .i64 r, .slice A1 n1 c1, .slice A2 n2 c2, .int .i64 e, .slice A3 n3 c3, .slice A4 n4 c4])) W) :
    if Region.wanted o Y = true then Oper.wp Tryz.prog o a W K Q else G := by
  rw [if_pos (by simp [Region.wanted, hgd])]
  unfold Oper.wp
  simp [execOp, ho, resolve, h0, h1, h2, h3, h4, h5, run_build6]
  exact h

end Go.Proofs.YtijkdpdmclkmlaaGreatDoor
