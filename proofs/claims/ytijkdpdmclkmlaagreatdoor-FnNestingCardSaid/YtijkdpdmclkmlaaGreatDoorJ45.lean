/- DERIVED: THE SHELF's CONTRACTS AT THIS DUMP, IN PLAIN WORDS (tools/lay-plain.mjs out of 'YtijkdpdmclkmlaaGreatDoorShelfWA.lean', which tools/lay-shelf.mjs wrote): THE SAME DECLARATIONS UNDER THE SAME NAMES: 'import', 'namespace', 'open', 'def', 'theorem' AND NOTHING ELSE: no command of the shelf's: FOR A HAND-IN. Each laying: the table of numbers ('.._ren') and one theorem, a field a fact of the dump's own or the kernel's comparison; each contract: ONE APPLICATION. slices.SortFunc at inner names by the comparison of the parallel product: walked. The program's parallel product: walked. -/
import Derived.Ground.NamesProg
import Derived.Ground.SlsfProg
import Derived.Shelf.SlGeneric
import Derived.Shelf.SlSortCmp.NoneTotal
import Derived.Test.YtijkdpdmclkmlaaGreatDoorProg
import Derived.Test.YtijkdpdmclkmlaaGreatDoorJ40
import Derived.Sort.OwnSorted
import Derived.BigQuiet
import Derived.Test.YtijkdpdmclkmlaaGreatDoorJ43
import Derived.Test.YtijkdpdmclkmlaaGreatDoorJ10
import Derived.Test.YtijkdpdmclkmlaaGreatDoorJ33
import Derived.IntWalk
set_option linter.unusedSimpArgs false
set_option linter.unusedVariables false
set_option maxRecDepth 100000
set_option maxHeartbeats 16000000
namespace Go.Proofs
open Go.Shelf
def Tryz.laysSW_ren : Go.Shelf.Ren := ⟨fun | 6 => 230 | 15 => 236 | 14 => 254 | 28 => 264 | 29 => 265 | 20 => 279 | 21 => 280 | 22 => 281 | 23 => 282 | 24 => 283 | 25 => 284 | 26 => 285 | 27 => 286 | 46 => 300 | 47 => 288 | 48 => 289 | 49 => 301 | 50 => 302 | 57 => 309 | n => n, fun | 22 => 29 | 24 => 90 | 25 => 164 | 3 => 3 | 39 => 128 | 0 => 0 | 53 => 168 | 55 => 70 | 4 => 4 | 46 => 189 | 45 => 188 | 50 => 194 | 5 => 5 | 9 => 9 | 66 => 213 | 70 => 217 | 76 => 224 | 77 => 37 | n => n, fun | n => n⟩
theorem Tryz.laysSW : Go.Proofs.SlLaysF0.n6 Tryz.prog Tryz.laysSW_ren := {
  mixed := by kernel_rfl
  f6 := ⟨Tryz.f230.name, by decide, Tryz.func230.trans (congrArg some (by kernel_rfl))⟩
  f14 := ⟨Tryz.f254.name, by decide, Tryz.func254.trans (congrArg some (by kernel_rfl))⟩
  f15 := Tryz.func236.trans (congrArg some (by kernel_rfl))
  f20 := ⟨Tryz.f279.name, by decide, Tryz.func279.trans (congrArg some (by kernel_rfl))⟩
  f21 := ⟨Tryz.f280.name, by decide, Tryz.func280.trans (congrArg some (by kernel_rfl))⟩
  f22 := ⟨Tryz.f281.name, by decide, Tryz.func281.trans (congrArg some (by kernel_rfl))⟩
  f23 := ⟨Tryz.f282.name, by decide, Tryz.func282.trans (congrArg some (by kernel_rfl))⟩
  f24 := ⟨Tryz.f283.name, by decide, Tryz.func283.trans (congrArg some (by kernel_rfl))⟩
  f25 := ⟨Tryz.f284.name, by decide, Tryz.func284.trans (congrArg some (by kernel_rfl))⟩
  f26 := ⟨Tryz.f285.name, by decide, Tryz.func285.trans (congrArg some (by kernel_rfl))⟩
  f27 := ⟨Tryz.f286.name, by decide, Tryz.func286.trans (congrArg some (by kernel_rfl))⟩
  f28 := Tryz.func264.trans (congrArg some (by kernel_rfl))
  f29 := Tryz.func265.trans (congrArg some (by kernel_rfl))
  f46 := ⟨Tryz.f300.name, by decide, Tryz.func300.trans (congrArg some (by kernel_rfl))⟩
  f47 := Tryz.func288.trans (congrArg some (by kernel_rfl))
  f48 := Tryz.func289.trans (congrArg some (by kernel_rfl))
  f49 := ⟨Tryz.f301.name, by decide, Tryz.func301.trans (congrArg some (by kernel_rfl))⟩
  f50 := ⟨Tryz.f302.name, by decide, Tryz.func302.trans (congrArg some (by kernel_rfl))⟩
  f57 := ⟨Tryz.f309.name, by decide, Tryz.func309.trans (congrArg some (by kernel_rfl))⟩
  t0 := Tryz.underlying0
  a0 := Tryz.isAgg0
  z0 := Tryz.sizeOf0
  v0 := Tryz.zeroValue0
  t3 := Tryz.underlying3
  a3 := Tryz.isAgg3
  z3 := Tryz.sizeOf3
  v3 := Tryz.zeroValue3
  t4 := Tryz.underlying4
  a4 := Tryz.isAgg4
  z4 := Tryz.sizeOf4
  v4 := Tryz.zeroValue4
  t5 := Tryz.underlying5
  a5 := Tryz.isAgg5
  z5 := Tryz.sizeOf5
  v5 := Tryz.zeroValue5
  t9 := Tryz.underlying9
  a9 := Tryz.isAgg9
  z9 := Tryz.sizeOf9
  v9 := Tryz.zeroValue9
  t22 := Tryz.underlying29
  a22 := Tryz.isAgg29
  z22 := Tryz.sizeOf29
  v22 := Tryz.zeroValue29
  t25 := Tryz.underlying164
  a25 := Tryz.isAgg164
  z25 := Tryz.sizeOf164
  v25 := Tryz.zeroValue164
  t39 := Tryz.underlying128
  a39 := Tryz.isAgg128
  z39 := Tryz.sizeOf128
  v39 := Tryz.zeroValue128
  t45 := Tryz.underlying188
  a45 := Tryz.isAgg188
  z45 := Tryz.sizeOf188
  v45 := Tryz.zeroValue188
  t46 := Tryz.underlying189
  a46 := Tryz.isAgg189
  z46 := Tryz.sizeOf189
  v46 := Tryz.zeroValue189
  t50 := Tryz.underlying194
  a50 := Tryz.isAgg194
  z50 := Tryz.sizeOf194
  v50 := Tryz.zeroValue194
  t53 := Tryz.underlying168
  a53 := Tryz.isAgg168
  z53 := Tryz.sizeOf168
  v53 := Tryz.zeroValue168
  t55 := Tryz.underlying70
  a55 := Tryz.isAgg70
  z55 := Tryz.sizeOf70
  v55 := Tryz.zeroValue70
  t66 := Tryz.underlying213
  a66 := Tryz.isAgg213
  z66 := Tryz.sizeOf213
  v66 := Tryz.zeroValue213
  t70 := Tryz.underlying217
  a70 := Tryz.isAgg217
  z70 := Tryz.sizeOf217
  v70 := Tryz.zeroValue217
  t76 := Tryz.underlying224
  a76 := Tryz.isAgg224
  z76 := Tryz.sizeOf224
  v76 := Tryz.zeroValue224
  t77 := Tryz.underlying37
  a77 := Tryz.isAgg37
  z77 := Tryz.sizeOf37
  v77 := Tryz.zeroValue37 }
end Go.Proofs

namespace Go.Proofs.YtijkdpdmclkmlaaGreatDoor
open Go.RowKit
open Go.Sort (SWO grow putRow putCells Holds putRowK HoldsK flatK mapBlock onCells grow_grow alloc_eq_grow heap_grow_old PermIn SortedIn)

def cmpW (x y : Wi) : Int := if lessS x.1 y.1 = true then -1 else 1
theorem ltOf_W (x y : Wi) : ltOf cmpW x y = lessS x.1 y.1 := by
  unfold ltOf cmpW
  cases lessS x.1 y.1 <;> rfl
theorem swoW : SWO (ltOf cmpW) where
  irrefl x := by rw [ltOf_W]; exact less_irr _
  trans x y z h1 h2 := by rw [ltOf_W] at *; exact less_trans h1 h2
  ntrans x y z h1 h2 := by
    rw [ltOf_W] at *
    cases h : lessS x.1 z.1
    · rfl
    exfalso
    by_cases hab : x.1 = y.1
    · rw [← hab] at h2; rw [h] at h2; cases h2
    have h3 : lessS y.1 x.1 = true := by
      cases h4 : lessS y.1 x.1
      · exact absurd (less_total h1 h4) hab
      rfl
    have := less_trans h3 h
    rw [this] at h2; cases h2
theorem par3_any (x y : Wi) (w : World) :
    Calls Tryz.prog 231 #[.agg #[.string x.1, .int .i64 x.2], .agg #[.string y.1, .int .i64 y.2]] w fun e w' => e = .returned (.int .i64 (cmpW x y)) ∧ ∃ q os', w' = grow (w.drewN q) os' := by
  obtain ⟨s, l⟩ := x
  obtain ⟨t, m⟩ := y
  have hq : Op.bytesLess s.toList t.toList = lessS s t := rfl
  have HE := Lib.hid (show cmpW (s, l) (t, m) = if lessS s t = true then -1 else 1 from rfl)
  cases hc : lessS s t
  · have HC := Lib.hid hc
    rw [hc] at hq
    clear hc
    go_enter Tryz.func231, Tryz.ntmps231
    go_wp2_with fail
    go_ret
    exact ⟨by rw [HE.out, HC.out]; rfl, 0, _, by rw [alloc_eq_grow, alloc_eq_grow, grow_grow]; rfl⟩
  have HC := Lib.hid hc
  rw [hc] at hq
  clear hc
  go_enter Tryz.func231, Tryz.ntmps231
  go_wp2_with fail
  go_ret
  exact ⟨by rw [HE.out, HC.out]; rfl, 0, _, by rw [alloc_eq_grow, alloc_eq_grow, grow_grow]; rfl⟩

theorem wi_len (l : List Wi) : (l.flatMap encWi).length = l.length * 2 := gwis_len l
theorem wi_flat : ∀ (l : List Wi) {i : Nat} {x : Wi}, l[i]? = some x → (l.flatMap encWi)[i * 2]? = some (.string x.1) ∧ (l.flatMap encWi)[i * 2 + 1]? = some (.int .i64 x.2) := fun l i x h => wis_at h
theorem flatK_wi (l : List Wi) : flatK encWi 2 l.toArray = (l.flatMap encWi).toArray := by
  apply Array.ext
  · rw [Go.Sort.size_flatK, List.size_toArray, List.size_toArray, wi_len]
  intro t h1 h2
  have hl : t < l.length * 2 := by simpa using h1
  have hk : t / 2 < l.length := by omega
  obtain ⟨a0, a1⟩ := wi_flat l (List.getElem?_eq_getElem hk)
  have e1 : (flatK encWi 2 l.toArray)[t] = (encWi l[t / 2])[t % 2]! := by
    simp [flatK, hk]
  rw [e1, List.getElem_toArray]
  have hm : t % 2 = 0 ∨ t % 2 = 1 := by omega
  have ht : t = t / 2 * 2 + t % 2 := by omega
  have hq : ∀ j v, t = j → (l.flatMap encWi)[j]? = some v → (l.flatMap encWi)[t]'(by simpa using h2) = v := by
    intro j v e hv
    subst e
    rw [List.getElem?_eq_some_iff] at hv
    exact hv.2
  rcases hm with h | h
  · rw [hq _ _ (by omega) a0, h]; rfl
  rw [hq _ _ (by omega) a1, h]; rfl

theorem heap_sortedW {w : World} {g n : Nat} {os : Array Obj} {cur : Array Value} {e : TypeId} {fr : Nat × Nat} (d : Array Value) (hb : w.heap[g]? = some (.cells cur e fr)) :
    (grow (putRow id (Sort.ahead w n) g 0 d) os).heap[g]? = some (.cells (putCells id 0 d cur) e fr) := by
  have hg : g < w.heap.size := (Array.getElem?_eq_some_iff.1 hb).1
  rw [heap_grow_old _ _ (by simpa using hg)]
  simp [putRow, mapBlock, Sort.ahead, Array.getElem?_modify, hb, onCells]
theorem grownBy_sortedW {w : World} {g n : Nat} {os : Array Obj} (d : Array Value) : w.grownBy (grow (putRow id (Sort.ahead w n) g 0 d) os) (some g) := by
  refine ⟨rfl, rfl, rfl, by simp, fun k hk hne => ?_⟩
  rw [heap_grow_old _ _ (by simpa using hk)]
  have : g ≠ k := fun e => hne (by rw [e])
  simp [putRow, mapBlock, Sort.ahead, Array.getElem?_modify, this]
theorem take_putCellsW (cur : Array Value) (ts : List Value) (h : ts.length ≤ cur.size) : (putCells id 0 ts.toArray cur).toList.take ts.length = ts := by
  apply List.ext_getElem?
  intro j
  by_cases hj : j < ts.length
  · rw [List.getElem?_take_of_lt hj, Array.getElem?_toList]
    simp [putCells, hj, show j < cur.size by omega]
  rw [List.getElem?_take_eq_none (by omega), List.getElem?_eq_none (by omega)]
theorem ownsRow_sortedW {w : World} {base g c n m sz : Nat} {e : TypeId} {os : Array Obj} {xs ts : List Value} (h : w.ownsRow base e sz (.slice (some ⟨g, 0, none⟩) n c) n xs) (hl : ts.length = xs.length) :
    (grow (putRow id (Sort.ahead w m) g 0 ts.toArray) os).ownsRow base e sz (.slice (some ⟨g, 0, none⟩) n c) n ts := by
  have h0 := h.1
  rcases h.2 with ⟨e1, _⟩ | ⟨g', cap, cur, e1, h1, h2, h3, h4, h5, h6⟩
  · cases e1
  cases e1
  have hm := Nat.mul_le_mul_right sz h3
  refine ⟨by omega, .inr ⟨g, c, _, rfl, h1, heap_sortedW _ h2, h3, h4, by simp [putCells, h5], ?_⟩⟩
  rw [← h0, ← hl]
  exact take_putCellsW cur ts (by omega)

theorem sortWi_some (g c B : Nat) (l : List Wi) (w : World) (hn : l.length ≤ 1000000) (h : w.ownsRow B 90 2 (.slice (some ⟨g, 0, none⟩) l.length c) l.length (l.flatMap encWi)) :
    Calls Tryz.prog 230 #[.slice (some ⟨g, 0, none⟩) l.length c, .func (.func 231) #[] #[]] w fun e w' => e = .returned (.tuple #[]) ∧ ∃ ys : List Wi, (ys.Perm l ∧ ys.Pairwise (fun a b => lessS b.1 a.1 = false)) ∧
      w'.ownsRow B 90 2 (.slice (some ⟨g, 0, none⟩) l.length c) l.length (ys.flatMap encWi) ∧ w.grownBy w' (some g) := by
  have eg : ∀ args w, (callFunc 231 args).run Tryz.prog w = .ok (.enter 231 args) w := enters_of Tryz.func231 (by kernel_rfl) rfl
  have hcells := (Cells.of_owns h)
  have hH : HoldsK encWi 2 w g 0 l.toArray := by
    unfold HoldsK
    rw [flatK_wi]
    intro j hj
    have hj' : j < (l.flatMap encWi).length := by simpa using hj
    obtain ⟨b, o, e, hc⟩ := hcells j _ (List.getElem?_eq_getElem hj')
    cases e
    refine ⟨?_, h.frozenAt _⟩
    rw [hc]
    simp
    rw [List.getElem?_eq_getElem hj']
    rfl
  have hcon := AnyQ.slices_SortFunc Tryz.laysSW 2 Tryz.isAgg90 Tryz.sizeOf90 encWi (fun _ => rfl) (fun x v hv => by simp [encWi] at hv; rcases hv with rfl | rfl <;> rfl) cmpW swoW 231 #[] g 0 c l.toArray w eg
    (fun m os dk hs x y => par3_any x y _) hH (h.lt g rfl).2 (by simp; omega)
  change Calls Tryz.prog 230 _ _ _ at hcon
  have hsz : l.toArray.size = l.length := by simp
  rw [hsz] at hcon
  refine hcon.mono ?_
  rintro e w' ⟨rfl, d', n, os, hp, hs, rfl⟩
  obtain ⟨p1, _, p3⟩ := hp
  have hd : d'.toList.length = l.length := by simp [p1]
  have hperm : d'.toList.Perm l := by
    have h1 : (d'.extract 0 l.length).toList = d'.toList := by
      rw [show l.length = d'.size from by rw [p1, hsz]]
      simp
    have h2 : (l.toArray.extract 0 l.length).toList = l := by simp
    rw [h1, h2] at p3
    exact p3
  refine ⟨rfl, d'.toList, ⟨hperm, ?_⟩, ?_, ?_⟩
  · rw [List.pairwise_iff_getElem]
    intro i j hi hj hij
    have := hs i j (Nat.zero_le _) hij (by rw [← hd]; exact hj)
    have hi' : i < d'.size := by simpa using hi
    have hj' : j < d'.size := by simpa using hj
    rw [ltOf_W, getElem!_pos d' j hj', getElem!_pos d' i hi'] at this
    simpa using this
  · unfold sortWorldK putRowK
    rw [show d' = d'.toList.toArray from by simp, flatK_wi]
    exact ownsRow_sortedW h (by rw [wi_len, wi_len, hd])
  unfold sortWorldK putRowK
  exact grownBy_sortedW _
theorem sortWi_any (v : Value) (B : Nat) (l : List Wi) (w : World) (hn : l.length ≤ 1000000) (h : w.ownsRow B 90 2 v l.length (l.flatMap encWi)) :
    Calls Tryz.prog 230 #[v, .func (.func 231) #[] #[]] w fun e w' => e = .returned (.tuple #[]) ∧ ∃ ys : List Wi, (ys.Perm l ∧ ys.Pairwise (fun a b => lessS b.1 a.1 = false)) ∧
      w'.ownsRow B 90 2 v ys.length (ys.flatMap encWi) ∧ Kept (fun q => v.ownBlock = some q) w w' := by
  rcases h.2 with ⟨rfl, h0⟩ | ⟨g, cap, cur, rfl, _⟩
  · have hl : l = [] := List.length_eq_zero_iff.1 h0
    subst hl
    refine (show Calls Tryz.prog 230 _ _ _ from AnyF.slices_SortFunc_none Tryz.laysSW none 0 (.func (.func 231) #[] #[]) w).mono ?_
    rintro e w' ⟨rfl, rfl⟩
    exact ⟨rfl, [], ⟨List.Perm.refl _, List.Pairwise.nil⟩, h, Kept.refl _ _⟩
  refine (sortWi_some g cap B l w hn h).mono ?_
  rintro e w' ⟨rfl, ys, hp, ho, hg⟩
  refine ⟨rfl, ys, hp, by rw [hp.1.length_eq]; exact ho, kept_of_grown hg⟩

end Go.Proofs.YtijkdpdmclkmlaaGreatDoor

namespace Go.Proofs.YtijkdpdmclkmlaaGreatDoor
open Go.RowKit
theorem par_bound {sig : List Ct} {b : Gr} (hb : GoodP sig b) {p : Int} (hp : (∃ x ∈ b.nodes, x.2.1 = p) ∨ p ∈ b.sites) (hneg : p < 0) : -1000000 ≤ p ∧ p ≤ 1000000 := by
 have h4 := hb.r
 have hr : -b.roots ≤ p := by
  rcases hp with ⟨x, hx, rfl⟩ | h
  ·obtain ⟨i, hi, rfl⟩ := List.getElem_of_mem hx
   exact (hb.nod i _ (List.getElem?_eq_getElem hi)).2.1.1 hneg
  exact (hb.sit p h).1 hneg
 omega

theorem wpList_appW {W : World} {ops : Array Oper} {rest : List Oper} {o : Oper} {a : Act} {Q : Exit → Act → World → Prop} (hgd : o.guard = none) (s x : Operand) (ho : o.op = .call { callee := .builtin .append, args := #[s, x], argTypes := #[29, 29] })
  (base : Nat) (v : Value) (n : Nat) (xs : List Value) (hs : a.eval s = v) (hown : W.ownsRow base 90 2 v n xs) (A : Option Addr) (m c : Nat) (ys : List Value) (hx : a.eval x = .slice A m c) (hl : ys.length = m * 2) (hA : Cells W A ys) (h1 : ∀ u ∈ ys, u.oneCell' = true)
  (hn : (n + m) * 24 ≤ 140737488355328 ∧ n + m ≤ 4611686018427387904) (hbase : base ≤ W.heap.size) {k : Nat} {zs : List Value} (hk : n + m = k) (hz : xs ++ ys = zs)
  (h : ∀ A' c' w', w'.ownsRow base 90 2 (.slice A' k c') k zs → Kept (fun q => v.ownBlock = some q) W w' → wpList Tryz.prog ops Q rest (a.put o.dst (.slice A' k c')) w') :
  wpList Tryz.prog ops Q (o :: rest) a W := by
 subst hk
 subst hz
 refine wpList_appC el_wireG hgd s x ho base v n xs hs hown A m c ys hx hl hA h1 hn hbase fun v' w' h2 h3 _ => ?_
 obtain ⟨A', c', rfl, h2⟩ := owns_form h2
 exact h A' c' w' h2 h3

theorem parallel_any (sig : List Ct) (a b : Gr) (nva sva ova iva nvb svb ovb ivb : Value) (w : World) (hsa : SmallG a) (hsb : SmallG b) (ha : GoodP sig a) (hb : GoodP sig b) (hn : commonB (innerN a) (innerN b) = false) (hGa : RGr w nva sva ova iva a) (hGb : RGr w nvb svb ovb ivb b) :
    Calls Tryz.prog 172 #[.agg #[.int .i64 a.roots, nva, sva, .int .i64 a.edges, ova, iva], .agg #[.int .i64 b.roots, nvb, svb, .int .i64 b.edges, ovb, ivb]] w fun e w' => ∃ X : BX, e = .returned (.agg X.cells) ∧ X.g = parG a b ∧ RG w w' X := by
  have HGA := Lib.hid (show ∀ W, Below w.heap.size w W → RGr W nva sva ova iva a from fun W hb => hGa.below hb)
  have HGB := Lib.hid (show ∀ W, Below w.heap.size w W → RGr W nvb svb ovb ivb b from fun W hb => hGb.below hb)
  obtain ⟨ANa, cNa, ASa, cSa, AOa, cOa, AIa, cIa, rfl, rfl, rfl, rfl⟩ := hGa.form
  obtain ⟨ANb, cNb, ASb, cSb, AOb, cOb, AIb, cIb, rfl, rfl, rfl, rfl⟩ := hGb.form
  obtain ⟨w0, hw0, hb0, hs0, bxa0, bxb0, hR0⟩ := laid3 w (.cells #[.int .i64 a.roots, .slice ANa a.nodes.length cNa, .slice ASa a.sites.length cSa, .int .i64 a.edges, .slice AOa a.outer.length cOa, .slice AIa a.inner.length cIa] 31) (.cells #[.int .i64 b.roots, .slice ANb b.nodes.length cNb, .slice ASb b.sites.length cSb, .int .i64 b.edges, .slice AOb b.outer.length cOb, .slice AIb b.inner.length cIb] 31) (.cells #[.int .i64 0, .slice none 0 0, .slice none 0 0, .int .i64 0, .slice none 0 0, .slice none 0 0] 31)
  have HRR := Lib.hid (keepB hR0)
  have HXA := Lib.hid (keepB bxa0)
  have HXB := Lib.hid (keepB bxb0)
  have HB0 := Lib.hid hb0
  have HW0 := Lib.hid hw0
  have HSA := Lib.hid hsa
  have HSB := Lib.hid hsb
  have HPA := Lib.hid ha
  have HPB := Lib.hid hb
  have HR0 := Lib.hid hR0
  have HS0 := Lib.hid hs0
  have h1 := ha.r
  have h4 := hb.r
  have h2 := ha.e
  have h3 := hb.e
  have h5 := names_len ha.on
  have h6 := names_len hb.on
  have hil1 := hsa.inner
  have hil2 := hsb.inner
  have hsl := hsa.sites
  have HND := Lib.hid (show ((parI a b).map fun x => x.1).Nodup from by rw [parI_names]; exact common_nodup hn (names_np ha.inn).nd (names_np hb.inn).nd)
  obtain ⟨oo, hoo⟩ : ∃ oo, oo = a.outer ++ b.outer := ⟨_, rfl⟩
  have hool : oo.length ≤ 32 := by rw [hoo, List.length_append]; omega
  obtain ⟨ed, hed⟩ : ∃ ed, ed = a.edges + b.edges := ⟨_, rfl⟩
  have hedb : -1000000 ≤ ed ∧ ed ≤ 1000000 := by omega
  obtain ⟨gJ, hgJ⟩ : ∃ gJ, gJ = parJ a b := ⟨_, rfl⟩
  obtain ⟨gL, hgL⟩ : ∃ gL, gL = relinkG a ed (sortS oo) id := ⟨_, rfl⟩
  have HPG := Lib.hid (show ∀ ys, ys = sortW (gL.inner ++ gJ.inner) → (⟨gJ.roots, gJ.nodes, gJ.sites, ed, gJ.outer, ys⟩ : Gr) = parG a b from fun ys h => by rw [h, hgJ, hgL, hed, hoo]; rfl)
  have HPI := Lib.hid (show gL.inner ++ gJ.inner = parI a b from by rw [hgJ, hgL, hed, hoo]; rfl)
  have HLL := Lib.hid (show gL.inner.length ≤ 1000 from by rw [hgL]; show (a.inner.map _).length ≤ 1000; rw [List.length_map]; exact hil1)
  have HLJ := Lib.hid (show gJ.inner.length ≤ 1000 from by rw [hgJ]; show (b.inner.map _).length ≤ 1000; rw [List.length_map]; exact hil2)
  have HGJ := Lib.hid (show gJ = joinedG a b (a.roots + b.roots) a.sites (sortS oo) (fun p => p - a.roots) asNameE from by rw [hgJ, hoo]; rfl)
  have HJE := Lib.hid (show gJ.edges = ed from by rw [hgJ, hed]; rfl)
  have HGL := Lib.hid hgL
  have HOO := Lib.hid hoo
  obtain ⟨wa, hwa, hba, hsa0, hxa⟩ := laid1 w0 (.cells #[.slice AOa a.outer.length cOa, .slice AOb b.outer.length cOb] 24)
  have HWA := Lib.hid hwa
  have HB0A := Lib.hid (hb0.trans (hba.mono hb0.size))
  have HZA := Lib.hid hba
  rw [hs0] at hxa
  have HCC := Lib.hid (concat2_any _ AOa AOb cOa cOb a.outer b.outer wa (by omega) hxa (by obtain ⟨A', c', e, h⟩ := (HGA.out wa (hb0.trans (hba.mono hb0.size))).o; cases e; exact h) (by obtain ⟨A', c', e, h⟩ := (HGB.out wa (hb0.trans (hba.mono hb0.size))).o; cases e; exact h))
  have hF1 : ∀ (args : Array Value) (w : World), (callFunc 228 args).run Tryz.prog w = .ok (.enter 228 args) w := fun args w => enter_of (P := Tryz.prog) (F := 228) (fn := Tryz.f228) (by kernel_rfl) (by kernel_rfl) (by kernel_rfl) args w
  have hF2 : ∀ (args : Array Value) (w : World), (callFunc 229 args).run Tryz.prog w = .ok (.enter 229 args) w := fun args w => enter_of (P := Tryz.prog) (F := 229) (fn := Tryz.f229) (by kernel_rfl) (by kernel_rfl) (by kernel_rfl) args w
  have hF3 : ∀ (args : Array Value) (w : World), (callFunc 169 args).run Tryz.prog w = .ok (.enter 169 args) w := fun args w => enter_of (P := Tryz.prog) (F := 169) (fn := Tryz.f169) (by kernel_rfl) (by kernel_rfl) (by kernel_rfl) args w
  have HF1 := Lib.hid hF1
  have HF2 := Lib.hid hF2
  have HF3 := Lib.hid hF3
  obtain ⟨xa0, xa1, xa2, xa3, xa4, xa5⟩ := row6 bxa0
  obtain ⟨xb0, xb1, xb2, xb3, xb4, xb5⟩ := row6 bxb0
  rw [hw0] at xa0 xa1 xa2 xa3 xa4 xa5 xb0 xb1 xb2 xb3 xb4 xb5
  have HED := Lib.hid hed
  clear hb0 hw0 bxa0 bxb0 hR0 hGa hGb hsa hsb ha hb hn hoo hgJ hgL hwa hba hxa hF1 hF2 hF3 hs0 hsa0 hed
  go_enter Tryz.func172, Tryz.ntmps172
  go_wp2_with fail
  rw [← HW0.out, ← HWA.out]
  (with_reducible refine HCC.out.mono ?_)
  rintro e w1 ⟨A1, c1, rfl, ho1, hb1⟩
  rw [← HOO.out] at ho1 ⊢
  have HO1 := Lib.hid (show ∀ W, Below w1.heap.size w1 W → Cells W A1 (strs oo) from fun W hb => (Cells.of_owns ho1).below hb)
  have HZ1 := Lib.hid (HZA.out.trans (hb1.mono HZA.out.size))
  have HB1 := Lib.hid (HB0.out.trans (HZ1.out.mono HB0.out.size))
  have hz1 := HZ1.out.size
  clear ho1 hb1 HCC xa0 xa1 xa2 xa3 xa4 xa5 xb0 xb1 xb2 xb3 xb4 xb5
  obtain ⟨xa0, xa1, xa2, xa3, xa4, xa5⟩ := row6 (HXA.out w1 HZ1.out)
  obtain ⟨xb0, xb1, xb2, xb3, xb4, xb5⟩ := row6 (HXB.out w1 HZ1.out)
  have HCJ := Lib.hid (joined_any a b _ _ _ _ _ _ _ _ (a.roots + b.roots) ASa cSa a.sites A1 c1 oo 228 #[.pointer (some ⟨w.heap.size, 0, none⟩)] (fun p => p - a.roots) 169 #[] asNameE w1 HSA.out HSB.out (by omega) hsl (good_links HPA.out) (good_links HPB.out) (good_pars HPB.out) (HGA.out w1 HB1.out) (HGB.out w1 HB1.out) (HO1.out w1 (Below.refl _ _))
    (by obtain ⟨A', c', e, h⟩ := (HGA.out w1 HB1.out).s; cases e; exact h) HF1.out HF3.out (fun p W hp hneg hb2 => par1_any a w.heap.size p W (par_bound HPB.out hp hneg) (by omega) (cell_of_row _ _ 0 _ _ _ (HXA.out W (HZ1.out.trans (hb2.mono HZ1.out.size))))) (fun l W hl hne hb2 => asName_any _ W))
  go_wp2_with fail
  (with_reducible refine HCJ.out.mono ?_)
  rintro e w2 ⟨X, rfl, hXg, hr⟩
  clear HCJ xa0 xa1 xa2 xa3 xa4 xa5 xb0 xb1 xb2 xb3 xb4 xb5
  replace hXg := hXg.trans HGJ.out.symm
  obtain ⟨xr, xe, xnv, xsv, xov, xiv, xns, xls, xss, xos, xis⟩ := X
  obtain ⟨AN1, cN1, AS1, cS1, AO1, cO1, AI1, cI1, e1, e2, e3, e4⟩ := hr.ob.form
  obtain rfl : xr = gJ.roots := congrArg Gr.roots hXg
  obtain rfl : xns = gJ.nodes := congrArg Gr.nodes hXg
  obtain rfl : xss = gJ.sites := congrArg Gr.sites hXg
  have hxe : ed = xe := (HJE.out.symm.trans (congrArg Gr.edges hXg).symm)
  subst hxe
  obtain rfl : xos = gJ.outer := congrArg Gr.outer hXg
  obtain rfl : xis = gJ.inner := congrArg Gr.inner hXg
  dsimp only at e1 e2 e3 e4
  subst e1 e2 e3 e4
  simp only [BX.cells]
  have HOB := Lib.hid hr.ob
  have HZ2 := Lib.hid (HZ1.out.trans (hr.bel.mono HZ1.out.size))
  have HO2 := Lib.hid (show ∀ W, Below w2.heap.size w2 W → Cells W A1 (strs oo) from fun W hb => HO1.out W (hr.bel.trans (hb.mono hr.bel.size)))
  have hz2 := hr.bel.size
  have hiI : Cells w2 AI1 (gJ.inner.flatMap encWi) := Cells.of_owns hr.ob.I
  have HII := Lib.hid (show ∀ W, Below w2.heap.size w2 W → Cells W AI1 (gJ.inner.flatMap encWi) from fun W hb => hiI.below hb)
  clear hXg hr hiI HO1
  obtain ⟨wb, hwb, hbb, hsb0, hxb⟩ := laid1 w2 (.cells #[.int .i64 gJ.roots, .slice AN1 gJ.nodes.length cN1, .slice AS1 gJ.sites.length cS1, .int .i64 ed, .slice AO1 gJ.outer.length cO1, .slice AI1 gJ.inner.length cI1] 31)
  have HWB := Lib.hid hwb
  have HZB := Lib.hid (HZ2.out.trans (hbb.mono HZ2.out.size))
  have HBB := Lib.hid hbb
  have HX6 := Lib.hid (keepB hxb)
  have HBW := Lib.hid (HB0.out.trans (HZB.out.mono HB0.out.size))
  obtain ⟨y0, y1, y2, y3, y4, y5⟩ := row6 hxb
  obtain ⟨xa0, xa1, xa2, xa3, xa4, xa5⟩ := row6 (HXA.out wb HZB.out)
  have HCR := Lib.hid (relinked_any a _ _ _ _ ed A1 c1 oo 229 #[] id wb HSA.out hedb (by omega) (good_links HPA.out) (HGA.out wb HBW.out) (HO2.out wb hbb) HF2.out (fun l W hl hb2 => par2_any (endG a l) W))
  clear hwb hxb hbb
  go_wp2_with (rw [← HWB.out])
  (with_reducible refine HCR.out.mono ?_)
  rintro e w3 ⟨X, rfl, hXg, hr⟩
  clear HCR xa0 xa1 xa2 xa3 xa4 xa5 y0 y1 y2 y3 y4 y5
  replace hXg := hXg.trans HGL.out.symm
  obtain ⟨zr, ze, znv, zsv, zov, ziv, zns, zls, zss, zos, zis⟩ := X
  obtain ⟨AN2, cN2, AS2, cS2, AO2, cO2, AI2, cI2, e1, e2, e3, e4⟩ := hr.ob.form
  obtain rfl : zis = gL.inner := congrArg Gr.inner hXg
  dsimp only at e1 e2 e3 e4
  subst e1 e2 e3 e4
  simp only [BX.cells]
  have hoI : w3.ownsRow wb.heap.size 90 2 (.slice AI2 gL.inner.length cI2) gL.inner.length (gL.inner.flatMap encWi) := hr.ob.I
  have hbr := hr.bel
  have hz3 := hbr.size
  clear hXg hr
  obtain ⟨wc, hwc, hbc, hsc0, hxc⟩ := laid1 w3 (.cells #[.int .i64 zr, .slice AN2 zns.length cN2, .slice AS2 zss.length cS2, .int .i64 ze, .slice AO2 zos.length cO2, .slice AI2 gL.inner.length cI2] 31)
  have HWC := Lib.hid hwc
  have HBC := Lib.hid (hbr.trans (hbc.mono hbr.size))
  have HOI := Lib.hid (ownsK hoI (Kept.of_below hbc (fun _ => False)) (fun _ _ h => h.elim))
  have HX7 := Lib.hid hxc
  have hx6c := HX6.out wc HBC.out
  have HX6C := Lib.hid hx6c
  have HIC := Lib.hid (HII.out wc (HBB.out.trans (HBC.out.mono HBB.out.size)))
  obtain ⟨y0, y1, y2, y3, y4, y5⟩ := row6 hx6c
  obtain ⟨u0, u1, u2, u3, u4, u5⟩ := row6 hxc
  have hsc := HBC.out.size
  clear hwc hxc hbc hoI hbr hx6c
  have HS5 := Lib.hid (show ∀ w4, Kept (fun q => (Value.slice AI2 gL.inner.length cI2).ownBlock = some q) wc w4 → w4.heap[w2.heap.size]? = some (.cells #[.int .i64 gJ.roots, .slice AN1 gJ.nodes.length cN1, .slice AS1 gJ.sites.length cS1, .int .i64 ed, .slice AO1 gJ.outer.length cO1, .slice AI1 gJ.inner.length cI1] 31) from fun w4 hk4 => (hk4.block _ (by omega) (fun e => by have := (HOI.out.lt _ e).1; omega)).trans HX6C.out)
  have hll := Nat.add_le_add HLL.out HLJ.out
  obtain ⟨pi, hpi⟩ : ∃ pi, pi = gL.inner ++ gJ.inner := ⟨_, rfl⟩
  have hpl : pi.length ≤ 2000 := by rw [hpi, List.length_append]; omega
  have HPIE := Lib.hid hpi
  have HPIL := Lib.hid (show gL.inner.length + gJ.inner.length = pi.length from by rw [hpi, List.length_append])
  have HPIF := Lib.hid (show gL.inner.flatMap encWi ++ gJ.inner.flatMap encWi = pi.flatMap encWi from by rw [hpi, List.flatMap_append])
  clear hpi hll
  go_wp2_with (first | rw [← HWC.out] | (at_builtin; refine wpList_appW rfl _ _ rfl wb.heap.size _ _ _ rfl HOI.out AI1 gJ.inner.length cI1 (gJ.inner.flatMap encWi) rfl (wi_len _) HIC.out (gwis_one _) (by have := HLL.out; have := HLJ.out; omega) (by omega) HPIL.out HPIF.out ?_; intro A4 c4 w4 ho4 hk4; obtain ⟨z0, z1, z2, z3, z4, z5, f0, f1, f2, f3, f4, f5⟩ := row6f (HS5.out w4 hk4); clear y0 y1 y2 y3 y4 y5 u0 u1 u2 u3 u4 u5))
  have hs4 := hk4.size
  have HX64 := Lib.hid (HS5.out w4 hk4)
  have HK4 := Lib.hid hk4
  have HO4 := Lib.hid ho4
  clear ho4 hk4
  obtain ⟨w5, hw5⟩ : ∃ w5, w5 = w4.setCell ⟨w2.heap.size, 5, none⟩ (.slice A4 pi.length c4) := ⟨_, rfl⟩
  have HW5 := Lib.hid hw5
  have hk5 : Kept (fun q => q = w2.heap.size) w4 w5 := by rw [hw5]; exact (Kept.refl _ _).setCell (S := fun q => q = w2.heap.size) (p := ⟨w2.heap.size, 5, none⟩) rfl _
  have hx65 : w5.heap[w2.heap.size]? = some (.cells #[.int .i64 gJ.roots, .slice AN1 gJ.nodes.length cN1, .slice AS1 gJ.sites.length cS1, .int .i64 ed, .slice AO1 gJ.outer.length cO1, .slice A4 pi.length c4] 31) := by rw [hw5]; exact heap_setCell_same _ _ 5 _ _ _ HX64.out
  have ho5 := ownsK HO4.out hk5 (fun q hq e => by have := (HO4.out.lt q hq).1; omega)
  have HCS := Lib.hid (sortWi_any (.slice A4 pi.length c4) wb.heap.size pi w5 (by omega) ho5)
  have HX65 := Lib.hid hx65
  have HK5 := Lib.hid hk5
  have HO5 := Lib.hid ho5
  have hs5 := hk5.size
  clear hw5 hk5 hx65 ho5
  rw [← HW5.out]
  (with_reducible refine HCS.out.mono ?_)
  rintro e w6 ⟨rfl, ys, hp, ho6, hk6⟩
  clear z0 z1 z2 z3 z4 z5 f0 f1 f2 f3 f4 f5 HCS
  have hs6 := hk6.size
  have hx66 := (hk6.block _ (by omega) (fun e => by have := (HO5.out.lt _ e).1; omega)).trans HX65.out
  have hk26 : Kept (fun q => w2.heap.size ≤ q) w2 w6 := ((((Kept.of_below HBB.out _).trans (Kept.of_below HBC.out _)).trans (HK4.out.mono fun q hq => by have := (HOI.out.lt q hq).1; omega)).trans (HK5.out.mono fun q hq => by omega)).trans (hk6.mono fun q hq => by have := (HO5.out.lt q hq).1; omega)
  have hsz0 := HS0.out
  have hk06 : Kept (fun q => w.heap.size + 1 + 1 + 1 ≤ q) w0 w6 := (Kept.of_below HZ2.out _).trans (hk26.mono fun q hq => by omega)
  have hob6 := HOB.out.kept hk26 (fun q hq => .inr hq)
  have HOB6 := Lib.hid (show OB w6 (w.heap.size + 1 + 1 + 1) ⟨gJ.roots, ed, .slice AN1 gJ.nodes.length cN1, .slice AS1 gJ.sites.length cS1, .slice AO1 gJ.outer.length cO1, .slice A4 pi.length c4, gJ.nodes, xls, gJ.sites, gJ.outer, ys⟩ from ({ hob6 with I := owns_mono ho6 (by omega) } : OB w6 w1.heap.size ⟨gJ.roots, ed, .slice AN1 gJ.nodes.length cN1, .slice AS1 gJ.sites.length cS1, .slice AO1 gJ.outer.length cO1, .slice A4 pi.length c4, gJ.nodes, xls, gJ.sites, gJ.outer, ys⟩).mono (by omega))
  have HYS := Lib.hid (HPG.out ys (sortW_of (by rw [HPI.out]; exact HND.out) (by rw [← HPIE.out]; exact hp.1) hp.2))
  have hR6 := (hk06.block (w.heap.size + 1 + 1) (by omega) (by omega)).trans HR0.out
  have HK06 := Lib.hid hk06
  obtain ⟨y0, y1, y2, y3, y4, y5⟩ := row6 hx66
  obtain ⟨z0, z1, z2, z3, z4, z5, f0, f1, f2, f3, f4, f5⟩ := row6f hR6
  clear hx66 hk26 hk06 hob6 hp ho6 hk6 hR6
  go_wp2_with fail
  have hf := fin6R (X := ⟨gJ.roots, ed, .slice AN1 gJ.nodes.length cN1, .slice AS1 gJ.sites.length cS1, .slice AO1 gJ.outer.length cO1, .slice A4 pi.length c4, gJ.nodes, xls, gJ.sites, gJ.outer, ys⟩) (w.heap.size + 1 + 1) HB0.out (by omega) HR0.out HK06.out HOB6.out
  (try simp only [Exit.inBlock, Exit.then])
  refine bodyPost_ret (results_cell_row rfl _ _ (w.heap.size + 1 + 1) _ _ _ _ rfl hf.1 Tryz.underlying31 rfl (by kernel_rfl)) rfl ?_
  exact ⟨_, rfl, HYS.out, hf.2⟩

end Go.Proofs.YtijkdpdmclkmlaaGreatDoor
