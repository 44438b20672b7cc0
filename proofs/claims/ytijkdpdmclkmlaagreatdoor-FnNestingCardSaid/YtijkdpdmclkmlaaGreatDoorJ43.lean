/- slices.IndexFunc and slices.ContainsFunc at strings: library walked. Small functions of the products: names in common, the function values of nesting and of the parallel product: walked. slices.Grow of nil and slices.Concat at []string: library walked. -/
import Derived.Test.YtijkdpdmclkmlaaGreatDoorProg
import Derived.Test.YtijkdpdmclkmlaaGreatDoorJ5
import Derived.Test.YtijkdpdmclkmlaaGreatDoorJ12
import Derived.Test.YtijkdpdmclkmlaaGreatDoorJ40
import Derived.Test.YtijkdpdmclkmlaaGreatDoorJ20
import Derived.Test.YtijkdpdmclkmlaaGreatDoorJ22
import Derived.BigQuiet
import Derived.Laws.AppendOwnNone
import Derived.Lib.AppendZeros
set_option linter.unusedSimpArgs false
set_option linter.unusedVariables false
set_option maxRecDepth 100000
set_option maxHeartbeats 16000000
namespace Go.Proofs.YtijkdpdmclkmlaaGreatDoor
open Go.RowKit
set_option maxRecDepth 100000 in
set_option maxHeartbeats 1000000 in
theorem indexFuncGS_any (A : Option Addr) (c : Nat) (l : List ByteArray) (F : FuncId) (cap : Array Value) (p : Nat → Bool) (w : World) (hn : l.length ≤ 16777216) (hv : Cells w A (strs l))
    (hF : ∀ (args : Array Value) (w : World), (callFunc F args).run Tryz.prog w = .ok (.enter F args) w)
    (hcall : ∀ (k : Nat) (x : ByteArray) (W : World), l[k]? = some x → Below w.heap.size w W → Calls Tryz.prog F (#[.string x] ++ cap) W fun e W' => e = .returned (.bool (p k)) ∧ Below W.heap.size W W') :
    Calls Tryz.prog 197 #[.slice A l.length c, .func (.func F) #[] cap] w fun e w' => e = .returned (.int .i64 (idxR l.length p)) ∧ Below w.heap.size w w' := by
  have HC := Lib.hid hcall
  have HV := Lib.hid (show ∀ W, Below w.heap.size w W → Cells W A (strs l) from fun W hb => hv.below hb)
  skip
  clear hcall hv
  go_enter Tryz.func197, Tryz.ntmps197
  go_wp2_with fail
  go_loopw [8] (fun i wr => ∃ k : Nat, k ≤ l.length ∧ i = .int .i64 k ∧ (∀ j, j < k → p j = false) ∧ Below w.heap.size w wr)
    (fun i _ => l.length - (intOf i).toNat)
  case atStart => exact ⟨0, Nat.zero_le _, rfl, fun j hj => by omega, Below.refl _ _⟩
  obtain ⟨k, hk, rfl, hall, hbel⟩ := hrel
  have HALL := Lib.hid hall
  clear hall
  by_cases hlt : k < l.length
  · obtain ⟨b, o, ev, kk⟩ := (HV.out wr hbel).str hlt
    have k0 := kk k hlt
    clear kk
    subst ev
    have hx0 : l[k]? = some (l.getD k default) := by simp [List.getD, hlt]
    have H := Lib.hid (HC.out k _ wr hx0 hbel)
    clear hx0
    obtain ⟨x, hx⟩ : ∃ x, x = l.getD k default := ⟨_, rfl⟩
    rw [← hx] at k0 H
    clear hx
    have HB := Lib.hid hbel
    clear hbel
    cases hp : p k
    · have HN := Lib.hid (none_next HALL.out hp)
      rw [hp] at H
      clear hp
      go_wp2_with ((with_reducible refine H.out.mono ?_); rintro e w1 ⟨rfl, hb1⟩)
      go_roundw
      case rel => exact ⟨k + 1, by omega, by go_num, HN.out, HB.out.trans (hb1.mono HB.out.size)⟩
      case measure => simp [intOf]; omega
    have HE := Lib.hid (idxR_some hlt HALL.out hp)
    rw [hp] at H
    clear hp
    go_wp2_with ((with_reducible refine H.out.mono ?_); rintro e w1 ⟨rfl, hb1⟩)
    go_ret
    exact ⟨by rw [HE.out]; rfl, HB.out.trans (hb1.mono HB.out.size)⟩
  obtain rfl : k = l.length := by omega
  have HE := Lib.hid (idxR_none HALL.out)
  go_wp2
  go_ret
  exact ⟨by rw [HE.out]; rfl, hbel⟩

set_option maxHeartbeats 1000000 in
theorem containsFuncGS_any (A : Option Addr) (c : Nat) (l : List ByteArray) (F : FuncId) (cap : Array Value) (p : Nat → Bool) (w : World) (hn : l.length ≤ 16777216) (hv : Cells w A (strs l))
    (hF : ∀ (args : Array Value) (w : World), (callFunc F args).run Tryz.prog w = .ok (.enter F args) w)
    (hcall : ∀ (k : Nat) (x : ByteArray) (W : World), l[k]? = some x → Below w.heap.size w W → Calls Tryz.prog F (#[.string x] ++ cap) W fun e W' => e = .returned (.bool (p k)) ∧ Below W.heap.size W W') :
    Calls Tryz.prog 117 #[.slice A l.length c, .func (.func F) #[] cap] w fun e w' => e = .returned (.bool (anyR l.length p)) ∧ Below w.heap.size w w' := by
  have H := Lib.hid (indexFuncGS_any A c l F cap p w hn hv hF hcall)
  have HI := Lib.hid (idxR_any l.length p)
  skip
  clear hF hcall hv
  go_enter Tryz.func117, Tryz.ntmps117
  go_wp2_with ((with_reducible refine H.out.mono ?_); rintro e w1 ⟨rfl, hb1⟩)
  go_ret
  exact ⟨by rw [← HI.out]; rfl, hb1⟩

theorem containsS_any (A : Option Addr) (c : Nat) (ls : List ByteArray) (x : ByteArray) (w : World) (hn : ls.length ≤ 16777216) (hA : Cells w A (strs ls)) :
    Calls Tryz.prog 227 #[.slice A ls.length c, .string x] w fun e w' => e = .returned (.bool (decide (0 ≤ atS ls x))) ∧ w = w' := by
  have HC := Lib.hid (indexS_any A c ls x w hn hA)
  have HE := Lib.hid (idx_atS ls x)
  clear hA
  go_enter Tryz.func227, Tryz.ntmps227
  go_wp2_with fail
  (with_reducible refine HC.out.mono ?_)
  rintro e w1 ⟨rfl, rfl⟩
  rw [HE.out]
  go_wp2_with fail
  go_ret
  exact ⟨rfl, rfl⟩
theorem common1_any (m : List ByteArray) (s : ByteArray) (pb : Nat) (A : Option Addr) (c : Nat) (w : World) (hn : m.length ≤ 16777216) (cb : w.cell? ⟨pb, 0, none⟩ = some (.slice A m.length c)) (hA : Cells w A (strs m)) :
    Calls Tryz.prog 226 #[.string s, .pointer (some ⟨pb, 0, none⟩)] w fun e w' => e = .returned (.bool (decide (0 ≤ atS m s))) ∧ Below w.heap.size w w' := by
  have HC := Lib.hid (containsS_any A c m s w hn hA)
  clear hA
  go_enter Tryz.func226, Tryz.ntmps226
  go_wp2_with fail
  (with_reducible refine HC.out.mono ?_)
  rintro e w1 ⟨rfl, rfl⟩
  go_wp2_with fail
  go_ret
  exact ⟨rfl, Below.refl _ _⟩
theorem haveCommon_any (A B : Option Addr) (c d : Nat) (l m : List ByteArray) (w : World) (hl : l.length ≤ 1000) (hm : m.length ≤ 1000) (hA : Cells w A (strs l)) (hB : Cells w B (strs m)) :
    Calls Tryz.prog 171 #[.slice A l.length c, .slice B m.length d] w fun e w' => e = .returned (.bool (commonB l m)) ∧ Below w.heap.size w w' := by
  obtain ⟨w0, hw0, hb0, -, bx0⟩ := laid1 w (.cells #[.slice B m.length d] 24)
  have hk := keepB bx0
  have hBk : ∀ W, Below w0.heap.size w0 W → Cells W B (strs m) := fun W hb => (hB.below hb0).below hb
  have HC := Lib.hid (containsFuncGS_any A c l 226 #[.pointer (some ⟨w.heap.size, 0, none⟩)] (fun k => decide (0 ≤ atS m (l.getD k default))) w0 (by omega) (hA.below hb0) (enter_of Tryz.func226 (by kernel_rfl) (by kernel_rfl)) (fun k x W hx hb => by
    obtain ⟨hk2, hxe⟩ := List.getElem?_eq_some_iff.1 hx
    have e : l.getD k default = x := by simp [List.getD, hx]
    rw [e]
    exact common1_any m x w.heap.size B d W (by omega) (cell_of_row _ _ 0 _ _ _ (hk W hb)) (hBk W hb)))
  have HB0 := Lib.hid hb0
  have HW0 := Lib.hid hw0
  clear hA hB hb0 hw0 bx0 hk hBk
  go_enter Tryz.func171, Tryz.ntmps171
  go_wp2_with fail
  rw [← HW0.out]
  (with_reducible refine HC.out.mono ?_)
  rintro e w1 ⟨rfl, hb⟩
  have HB1 := Lib.hid (HB0.out.trans (hb.mono HB0.out.size))
  clear hb
  go_wp2_with fail
  go_ret
  exact ⟨rfl, HB1.out⟩
theorem nest1_any (a : Gr) (pa : Nat) (AS : Option Addr) (cS : Nat) (p : Int) (w : World) (hp : 0 ≤ -1 - p ∧ -1 - p < a.sites.length) (hn : a.sites.length ≤ 1000)
    (ca : w.cell? ⟨pa, 2, none⟩ = some (.slice AS a.sites.length cS)) (hA : Cells w AS (ints a.sites)) :
    Calls Tryz.prog 168 #[.int .i64 p, .pointer (some ⟨pa, 0, none⟩)] w fun r w' => r = .returned (.int .i64 (underA a p)) ∧ Below w.heap.size w w' := by
  obtain ⟨h1, h2⟩ := hp
  have hlt : (-1 - p).toNat < a.sites.length := by omega
  obtain ⟨b, o, rfl, hc⟩ := hA.int hlt
  have k0 := hc _ hlt
  have HE := Lib.hid (show underA a p = a.sites.getD (-1 - p).toNat 0 from rfl)
  obtain ⟨y, hy⟩ : ∃ y, y = a.sites.getD (-1 - p).toNat 0 := ⟨_, rfl⟩
  rw [← hy] at k0 HE
  clear hc hA hy hlt
  go_enter Tryz.func168, Tryz.ntmps168
  go_wp2_with fail
  go_ret
  exact ⟨by rw [HE.out]; rfl, Below.refl _ _⟩
theorem asName_any (s : ByteArray) (w : World) : Calls Tryz.prog 169 #[.string s] w fun r w' => r = .returned (enV (asNameE s)) ∧ Below w.heap.size w w' := by
  obtain ⟨w0, hw0, hb0, -, bx0⟩ := laid1 w (.cells #[.int .i64 0, .string s] 135)
  go_enter Tryz.func169, Tryz.ntmps169
  go_wp2_with fail
  refine bodyPost_ret (results_cell_row rfl _ _ w.heap.size _ _ _ _ rfl (by rw [← hw0]; exact bx0) Tryz.underlying135 rfl (by kernel_rfl)) rfl ?_
  exact ⟨rfl, by rw [← hw0]; exact hb0⟩
theorem par1_any (a : Gr) (pa : Nat) (p : Int) (w : World) (hp : -1000000 ≤ p ∧ p ≤ 1000000) (hr : -1000 ≤ a.roots ∧ a.roots ≤ 1000) (ca : w.cell? ⟨pa, 0, none⟩ = some (.int .i64 a.roots)) :
    Calls Tryz.prog 228 #[.int .i64 p, .pointer (some ⟨pa, 0, none⟩)] w fun r w' => r = .returned (.int .i64 (p - a.roots)) ∧ Below w.heap.size w w' := by
  obtain ⟨h1, h2⟩ := hp
  obtain ⟨h3, h4⟩ := hr
  go_enter Tryz.func228, Tryz.ntmps228
  go_wp2_with fail
  go_ret
  exact ⟨rfl, Below.refl _ _⟩
theorem par2_any (e : En) (w : World) : Calls Tryz.prog 229 #[enV e] w fun r w' => r = .returned (enV e) ∧ Below w.heap.size w w' := by
  obtain ⟨n, s⟩ := e
  go_enter Tryz.func229, Tryz.ntmps229
  go_wp2_with fail
  refine bodyPost_ret (results_cell_row rfl _ _ (w.heap.size + 1) _ _ _ _ rfl (new_two w (.cells #[.int .i64 n, .string s] 135) (.cells #[.int .i64 n, .string s] 135)) Tryz.underlying135 rfl (by kernel_rfl)) rfl ?_
  exact ⟨rfl, ((Below.refl _ _).alloc (Nat.le_refl _) _).alloc (by simp) _⟩

theorem run_append_none_capT {P : Program} {w : World} (base : Nat) (t ty e : TypeId) (i : TypeInfo) (size : Nat) (ht : P.underlying t = some (.slice e)) (hi : P.info? e = some i)
    (v : Value) (n c : Nat) (xs : List Value) (hown : w.ownsRow base e size v n xs) :
    (Builtin.append_ #[t, t] ty #[v, .slice none 0 c]).run P w = .ok v w := by
  rcases hown.2 with ⟨rfl, rfl⟩ | ⟨g, cap, cur, rfl, _, _, hnc, _⟩
  · simp [Builtin.append_, run_underlying ht, sizeOf, typeInfo, hi, Builtin.lenOf, Builtin.firstCells]
  simp [Builtin.append_, run_underlying ht, sizeOf, typeInfo, hi, Builtin.lenOf, Builtin.firstCells, hnc, storeCells]

theorem wpList_append_none_capT {P : Program} {w : World} {ops : Array Oper} {rest : List Oper} {o : Oper} {a : Act} {Q : Exit → Act → World → Prop} (hgd : o.guard = none) (s x : Operand) (t : TypeId)
    (ho : o.op = .call { callee := .builtin .append, args := #[s, x], argTypes := #[t, t] })
    (base : Nat) (e : TypeId) (i : TypeInfo) (size : Nat) (ht : P.underlying t = some (.slice e)) (hi : P.info? e = some i)
    (v : Value) (n c : Nat) (xs : List Value) (hs : a.eval s = v) (hown : w.ownsRow base e size v n xs) (hx : a.eval x = .slice none 0 c)
    (h : wpList P ops Q rest (a.put o.dst v) w) : wpList P ops Q (o :: rest) a w := by
  refine wpList_plain hgd fun K hK => ?_
  have hrun := run_append_none_capT (P := P) (w := w) base t o.type e i size ht hi v n c xs hown
  unfold Oper.wp
  simp [execOp, ho, resolve, invoke, builtin, hs, hx, hrun, Result.andThen]
  exact hK _ _ h

theorem cells_noneT {w : World} {cs : List Value} (h : Cells w none cs) : cs = [] := by
  cases cs with
  | nil => rfl
  | cons x r =>
    obtain ⟨b, o, e, _⟩ := h.at_ (k := 0) (by simp)
    cases e

/-- A slice of slices of one-cell elements, as read. -/
def RVS (w : World) (v : Value) (yss : List (List Value)) : Prop :=
  ∃ A c vs, v = .slice A yss.length c ∧ vs.length = yss.length ∧ Cells w A vs ∧ ∀ (i : Nat) u ys, vs[i]? = some u → yss[i]? = some ys → ∃ A1 c1, u = .slice A1 ys.length c1 ∧ Cells w A1 ys

theorem RVS.below {w w' : World} {v : Value} {yss : List (List Value)} (h : RVS w v yss) (hb : Below w.heap.size w w') : RVS w' v yss := by
  obtain ⟨A, c, vs, e, hl, hc, hi⟩ := h
  refine ⟨A, c, vs, e, hl, hc.below hb, fun i u ys h1 h2 => ?_⟩
  obtain ⟨A1, c1, e1, h3⟩ := hi i u ys h1 h2
  exact ⟨A1, c1, e1, h3.below hb⟩

/-- The cells of the first k slices. -/
def flatTo (yss : List (List Value)) (k : Nat) : List Value := (yss.take k).flatten
theorem flatTo_zero (yss : List (List Value)) : flatTo yss 0 = [] := by simp [flatTo]
theorem flatTo_all (yss : List (List Value)) : flatTo yss yss.length = yss.flatten := by simp [flatTo]
theorem flatTo_next {yss : List (List Value)} {k : Nat} (h : k < yss.length) : flatTo yss (k + 1) = flatTo yss k ++ yss[k] := by
  unfold flatTo
  rw [List.take_succ_eq_append_getElem h, List.flatten_append]
  simp
theorem flatTo_le {yss : List (List Value)} {k : Nat} : (flatTo yss k).length ≤ yss.flatten.length := by
  have := congrArg List.length (congrArg List.flatten (List.take_append_drop k yss))
  rw [List.flatten_append, List.length_append] at this
  unfold flatTo
  omega
theorem owns_prefix {w : World} {B g : Nat} {e : TypeId} {Z : Array Value} {cap : Nat} (hg : w.heap[g]? = some (.cells Z e)) (hB : B ≤ g) (hZ : Z.size = cap) (hm : cap ≤ maxLen) : w.ownsRow B e 1 (.slice (some ⟨g, 0, none⟩) 0 cap) 0 [] :=
  ⟨rfl, .inr ⟨g, cap, Z, rfl, hB, hg, Nat.zero_le _, hm, by rw [hZ, Nat.mul_one], by simp⟩⟩

theorem info_gT : (Tryz.prog.info? 9).map (fun i => (i.zero, i.size, i.bytes)) = some (some (Value.string ⟨#[]⟩), 1, 16) := by kernel_rfl

set_option maxRecDepth 100000 in
set_option maxHeartbeats 4000000 in
theorem growTx_any (n : Nat) (w : World) (h : n ≤ 1000000) :
    Calls Tryz.prog 223 #[.slice none 0 0, .int .i64 n] w fun e w' => ∃ v, e = .returned v ∧ w'.ownsRow w.heap.size 9 1 v 0 [] ∧ Below w.heap.size w w' := by
  obtain ⟨i0, hi, hz0, hz1, hz2⟩ := info_parts info_gT
  by_cases hn : n = 0
  · subst hn
    go_enter Tryz.func223, Tryz.ntmps223
    go_wp2_with fail
    go_ret
    exact ⟨_, rfl, World.ownsRow_nil _ _ _ _, Below.refl _ _⟩
  have happ := Lib.run_append_nil_zeros (P := Tryz.prog) w 24 3 24 9 i0 (Value.string ⟨#[]⟩) .i64 .i64 Tryz.underlying24 Tryz.underlying3 hi hz0 n (by omega) (by omega) (by omega) (by rw [hz2]; omega)
  have hcap1 := grownCap_ge w n 0 9
  have hcap2 := grownCap_le_maxLen w n 0 9 (by unfold maxLen; omega)
  generalize grownCap w n 0 9 = cap at *
  generalize hZ : (Builtin.zeroCells (Value.string ⟨#[]⟩).cells n ++ Builtin.zeroCells (Value.string ⟨#[]⟩).cells (cap - n)) = Z at happ
  have hZs : Z.size = cap := by rw [← hZ]; simp [size_zeroCells, Value.cells]; omega
  have hrow := owns_prefix (heap_alloc_new w.drew (.cells Z 9)) (B := w.heap.size) (Nat.le_refl _) hZs hcap2
  have HR := Lib.hid (show ((w.alloc (.cells Z 9)).drew).ownsRow w.heap.size 9 1 (.slice (some ⟨w.heap.size, 0, none⟩) 0 cap) 0 [] from hrow)
  have HB := Lib.hid (show Below w.heap.size w (w.alloc (.cells Z 9)).drew from (Below.refl _ w).drew.alloc (Nat.le_refl _) _)
  have hc0 : (0 : Int) ≤ (cap : Int) := by omega
  clear hZ hrow
  go_enter Tryz.func223, Tryz.ntmps223
  go_wp2_with (at_builtin; refine Lib.wpList_append_run _ rfl _ _ _ _ rfl _ _ rfl rfl _ _ happ ?_)
  go_ret
  exact ⟨_, rfl, HR.out, HB.out⟩

set_option maxRecDepth 100000 in
set_option maxHeartbeats 8000000 in
theorem concatT_any (v : Value) (yss : List (List Value)) (w : World) (hn : yss.length ≤ 1000) (hs : yss.flatten.length ≤ 1000000) (h1 : ∀ u ∈ yss.flatten, u.oneCell' = true) (hv : RVS w v yss) :
    Calls Tryz.prog 167 #[v] w fun e w' => ∃ r, e = .returned r ∧ w'.ownsRow w.heap.size 9 1 r yss.flatten.length yss.flatten ∧ Below w.heap.size w w' := by
  obtain ⟨i0, hi, hz0, hz1, hz2⟩ := info_parts info_gT
  have HV := Lib.hid (show ∀ W, Below w.heap.size w W → RVS W v yss from fun W hb => hv.below hb)
  have H1 := Lib.hid h1
  obtain ⟨A, c, vs, rfl, hvl, hc, hrow⟩ := hv
  clear h1
  go_enter Tryz.func167, Tryz.ntmps167
  go_wp2_with fail
  go_loop [3, 11] (fun z i => ∃ k : Nat, k ≤ yss.length ∧ i = .int .i64 k ∧ z = .int .i64 (flatTo yss k).length) (fun _ i => yss.length - (intOf i).toNat)
  case atStart => exact ⟨0, Nat.zero_le _, rfl, by rw [flatTo_zero]; rfl⟩
  obtain ⟨k, hk, rfl, rfl⟩ := hrel
  have hle := flatTo_le (yss := yss) (k := k)
  by_cases hlt : k < yss.length
  · have hku : k < vs.length := by omega
    obtain ⟨b, o, rfl, hcc⟩ := hc.at_ hku
    have hck := hcc k _ (List.getElem?_eq_getElem hku)
    obtain ⟨A1, c1, e1, _⟩ := hrow k _ _ (List.getElem?_eq_getElem hku) (List.getElem?_eq_getElem hlt)
    rw [e1] at hck
    have hnx := congrArg List.length (flatTo_next hlt)
    rw [List.length_append] at hnx
    have hle2 := flatTo_le (yss := yss) (k := k + 1)
    have HNX := Lib.hid hnx
    have hl2 : (flatTo yss k).length + yss[k].length ≤ 1000000 := by omega
    clear hcc hrow hc HV H1 hnx hle2 e1
    generalize yss[k].length = q at *
    generalize (flatTo yss k).length = p at *
    have hp : ¬ ((p : Int) + (q : Int) < 0) := by omega
    go_wp2_with fail
    go_round
    case rel => exact ⟨k + 1, by omega, by go_num, by rw [HNX.out]; go_num⟩
    case measure => simp [intOf]; omega
  obtain rfl : k = yss.length := by omega
  rw [flatTo_all]
  have HGR := Lib.hid (growTx_any yss.flatten.length w hs)
  have HLE := Lib.hid (fun k => flatTo_le (yss := yss) (k := k))
  clear hc hrow hle
  generalize hFL : yss.flatten.length = FL at *
  have HFL := Lib.hid hFL
  clear hFL
  go_wp2_with fail
  refine HGR.out.mono ?_
  rintro e w1 ⟨u, rfl, hu, hb1⟩
  have HU := Lib.hid hu
  have HB1 := Lib.hid hb1
  clear hu hb1
  go_wp2_with fail
  go_loopw [6, 27] (fun u i wr => ∃ k : Nat, k ≤ yss.length ∧ i = .int .i64 k ∧ wr.ownsRow w.heap.size 9 1 u (flatTo yss k).length (flatTo yss k) ∧ Below w.heap.size w wr)
    (fun _ i _ => yss.length - (intOf i).toNat)
  case atStart => exact ⟨0, Nat.zero_le _, rfl, by rw [flatTo_zero]; exact HU.out, HB1.out⟩
  clear HU HB1
  obtain ⟨k, hk, rfl, hown, hbel⟩ := hrel
  obtain ⟨AU, cU, rfl, hown⟩ := owns_form hown
  have hle := HLE.out k
  by_cases hlt : k < yss.length
  · obtain ⟨A', c', vs', e, hvl', hcB, hrow⟩ := HV.out wr hbel
    cases e
    obtain ⟨b, o, rfl, hcb⟩ := hcB.at_ (k := k) (by omega)
    have hck := hcb k _ (List.getElem?_eq_getElem (by omega))
    obtain ⟨A3, c3, e3, hc3⟩ := hrow k _ _ (List.getElem?_eq_getElem (by omega)) (List.getElem?_eq_getElem hlt)
    rw [e3] at hck
    have hnx := flatTo_next hlt
    have hone : ∀ u ∈ yss[k], u.oneCell' = true := fun u hu => H1.out u (List.mem_flatten.2 ⟨_, List.getElem_mem hlt, hu⟩)
    have hle2 := HLE.out (k + 1)
    rw [hnx, List.length_append] at hle2
    have HNX := Lib.hid hnx
    have HO := Lib.hid hown
    have HB := Lib.hid hbel
    have HC3 := Lib.hid hc3
    have HONE := Lib.hid hone
    have hl2 : (flatTo yss k).length + yss[k].length ≤ 1000000 := by omega
    clear hcB hcb hrow e3 hc3 hnx hown hbel hone hle2 hle
    generalize yss[k] = ys at *
    generalize flatTo yss k = fk at *
    cases A3 with
    | none =>
      have h0 : ys = [] := cells_noneT HC3.out
      subst h0
      go_wp2_with (at_builtin; refine wpList_append_none_capT rfl _ _ 24 rfl w.heap.size 9 i0 1 Tryz.underlying24 hi _ _ _ _ rfl HO.out rfl ?_)
      go_roundw
      case rel => exact ⟨k + 1, by omega, by go_num, by rw [HNX.out, List.append_nil]; exact HO.out, HB.out⟩
      case measure => simp [intOf]; omega
    | some ad =>
      go_wp2_with (at_builtin; refine wpList_append_own _ rfl _ _ 24 rfl w.heap.size 9 i0 (Value.string ⟨#[]⟩) 1 16 Tryz.underlying24 hi hz0 hz1 hz2 rfl (by decide) _ _ _ rfl HO.out ad ys.length c3 ys rfl (by simp) (cells_addG HC3.out) HONE.out (by unfold maxLen; omega) (by omega) HB.out.size ?_; intro v2 w2 hown2 hgrow2 _)
      rw [← List.length_append, ← HNX.out] at hown2
      have HO2 := Lib.hid hown2
      have HG := Lib.hid (HB.out.grown hgrow2 HB.out.size (fun q hq => (HO.out.lt q hq).1))
      clear hown2 hgrow2
      go_wp2_with fail
      go_roundw
      case rel => exact ⟨k + 1, by omega, by go_num, HO2.out, HG.out⟩
      case measure => simp [intOf]; omega
  obtain rfl : k = yss.length := by omega
  have HO := Lib.hid hown
  have HB := Lib.hid hbel
  clear hown hbel
  go_wp2_with fail
  go_ret
  refine ⟨_, rfl, ?_, HB.out⟩
  rw [show yss.flatten = flatTo yss yss.length from (flatTo_all yss).symm]
  exact HO.out

theorem concat2_any (gz : Nat) (A B : Option Addr) (cA cB : Nat) (xs ys : List ByteArray) (w : World) (hl : xs.length + ys.length ≤ 1000000) (h : w.heap[gz]? = some (.cells #[.slice A xs.length cA, .slice B ys.length cB] 24)) (hA : Cells w A (strs xs)) (hB : Cells w B (strs ys)) :
    Calls Tryz.prog 167 #[.slice (some ⟨gz, 0, none⟩) 2 2] w fun e w' => ∃ A' c', e = .returned (.slice A' (xs ++ ys).length c') ∧ w'.ownsRow w.heap.size 9 1 (.slice A' (xs ++ ys).length c') (xs ++ ys).length (strs (xs ++ ys)) ∧ Below w.heap.size w w' := by
  have hfl : [strs xs, strs ys].flatten = strs (xs ++ ys) := by simp [strs]
  have hlen : (strs (xs ++ ys)).length = (xs ++ ys).length := by simp [strs]
  have hc := concatT_any (.slice (some ⟨gz, 0, none⟩) 2 2) [strs xs, strs ys] w (by simp) (by rw [hfl, hlen, List.length_append]; exact hl) (by rw [hfl]; intro u hu; obtain ⟨s, _, rfl⟩ := List.mem_map.1 hu; rfl)
    ⟨some ⟨gz, 0, none⟩, 2, [.slice A xs.length cA, .slice B ys.length cB], rfl, rfl, Cells.of_owns (show w.ownsRow gz 24 1 (.slice (some ⟨gz, 0, none⟩) 2 2) 2 [.slice A xs.length cA, .slice B ys.length cB] from ⟨rfl, .inr ⟨gz, 2, _, rfl, Nat.le_refl _, h, Nat.le_refl _, by decide, rfl, rfl⟩⟩), fun i u zs h1 h2 => by
      match i with
      | 0 => simp at h1 h2; subst h1; subst h2; exact ⟨A, cA, by simp [strs], hA⟩
      | 1 => simp at h1 h2; subst h1; subst h2; exact ⟨B, cB, by simp [strs], hB⟩
      | i + 2 => simp at h1⟩
  refine hc.mono ?_
  rintro e w' ⟨r, rfl, ho, hb⟩
  rw [hfl, hlen] at ho
  obtain ⟨A', c', rfl, ho⟩ := owns_form ho
  exact ⟨A', c', rfl, ho, hb⟩

end Go.Proofs.YtijkdpdmclkmlaaGreatDoor
