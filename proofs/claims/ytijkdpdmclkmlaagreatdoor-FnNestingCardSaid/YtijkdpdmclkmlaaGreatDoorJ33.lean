/- What stays while calls lay new memory; what a builder gives back, taken apart. Elements: identities and permutations of both packages, with their checks: walked. A region that draws its order, told slot by slot: each operation says what its slot holds (R) and what has become of the old memory (D, by which of the operations eff have come up); the frame is made at the end. No program is in sight. A region that draws its order, told slot by slot as in XRegW; here each operation q may turn the memory in its own way (T q), and what a slot holds (R) must outlast only the operations that need not come before it. No program is in sight. -/
import Derived.Test.YtijkdpdmclkmlaaGreatDoorProg
import Derived.Test.YtijkdpdmclkmlaaGreatDoorJ19
import Derived.Test.YtijkdpdmclkmlaaGreatDoorJ0
import Derived.Test.YtijkdpdmclkmlaaGreatDoorJ21
import Derived.Test.YtijkdpdmclkmlaaGreatDoorJ3
import Derived.Test.YtijkdpdmclkmlaaGreatDoorJ14
import Derived.Test.YtijkdpdmclkmlaaGreatDoorJ20
import Derived.BigQuiet
import Derived.Test.YtijkdpdmclkmlaaGreatDoorJ15
import Derived.Test.YtijkdpdmclkmlaaGreatDoorJ10
import Derived.Test.YtijkdpdmclkmlaaGreatDoorJ6
import Derived.Test.YtijkdpdmclkmlaaGreatDoorJ8
import Derived.Test.YtijkdpdmclkmlaaGreatDoorJ16
import Derived.Test.YtijkdpdmclkmlaaGreatDoorJ7
import Derived.Test.YtijkdpdmclkmlaaGreatDoorJ1
import Derived.Test.YtijkdpdmclkmlaaGreatDoorJ5
import Derived.Test.YtijkdpdmclkmlaaGreatDoorJ23
set_option linter.unusedSimpArgs false
set_option linter.unusedVariables false
set_option maxRecDepth 100000
set_option maxHeartbeats 16000000
namespace Go.Proofs.YtijkdpdmclkmlaaGreatDoor
open Go.RowKit
/-- What holds as long as nothing that is there at v turns. -/
def Stay (F : World → Prop) (v : World) : Prop := ∀ W, Below v.heap.size v W → F W
section
variable {F G : World → Prop} {v v' w : World}
theorem Stay.mono (h : Stay F v) (hb : Below v.heap.size v v') : Stay F v' := fun W hW => h W (hb.trans (hW.mono hb.size))
theorem Stay.now (h : Stay F v) : F v := h v (Below.refl _ _)
theorem Stay.and (h : Stay F v) (g : Stay G v) : Stay (fun W => F W ∧ G W) v := fun W hW => ⟨h W hW, g W hW⟩
theorem stay_gr {nv sv ov iv : Value} {g : Gr} (h : RGr v nv sv ov iv g) : Stay (fun W => RGr W nv sv ov iv g) v := fun W hb => h.below hb
theorem stay_sig {gv : Value} {sig : List Ct} (h : RSl RCt 3 v gv sig) : Stay (fun W => RSl RCt 3 W gv sig) v := fun W hb => h.below RCt_keep hb
theorem stay_cells {A : Option Addr} {cs : List Value} (h : Cells v A cs) : Stay (fun W => Cells W A cs) v := fun W hb => h.below hb
theorem stay_box {k : Nat} {o : Obj} (h : v.heap[k]? = some o) : Stay (fun W => W.heap[k]? = some o) v := keepB h
theorem stay_bel (h : Below w.heap.size w v) : Stay (fun W => Below w.heap.size w W) v := fun W hb => h.trans (hb.mono h.size)
end

/-- A struct value of six fields, its rows as slices. -/
theorem OB.open {W : World} {B : Nat} {X : BX} (h : OB W B X) : ∃ r e ns ls ss os is AN cN AS cS AO cO AI cI, X = ⟨r, e, .slice AN ns.length cN, .slice AS ss.length cS, .slice AO os.length cO, .slice AI is.length cI, ns, ls, ss, os, is⟩ := by
  obtain ⟨AN, cN, AS, cS, AO, cO, AI, cI, e1, e2, e3, e4⟩ := h.form
  obtain ⟨r, e, nv, sv, ov, iv, ns, ls, ss, os, is⟩ := X
  dsimp only at e1 e2 e3 e4
  subst e1 e2 e3 e4
  exact ⟨r, e, ns, ls, ss, os, is, AN, cN, AS, cS, AO, cO, AI, cI, rfl⟩
theorem rg_parts {w w' : World} {X : BX} {g : Gr} (h : RG w w' X) (hg : X.g = g) (hs : SmallG g) : ∃ AN cN AS cS AO cO AI cI, X.cells = #[.int .i64 g.roots, .slice AN g.nodes.length cN, .slice AS g.sites.length cS, .int .i64 g.edges, .slice AO g.outer.length cO, .slice AI g.inner.length cI] ∧
    RGr w' (.slice AN g.nodes.length cN) (.slice AS g.sites.length cS) (.slice AO g.outer.length cO) (.slice AI g.inner.length cI) g ∧ Below w.heap.size w w' := by
  have hb := h.bel
  have hr := h.ob.rgr (by rw [hg]; exact hs)
  obtain ⟨r, e, ns, ls, ss, os, is, AN, cN, AS, cS, AO, cO, AI, cI, rfl⟩ := h.ob.open
  subst hg
  exact ⟨AN, cN, AS, cS, AO, cO, AI, cI, rfl, hr, hb⟩

theorem implIdentityOf_any (n : Int) (A : Option Addr) (c : Nat) (names : List ByteArray) (w : World) (hl : names.length ≤ 1000) (hz : ∀ s ∈ names, s.size ≤ 1000) (hA : Cells w A (strs names)) :
    Calls Tryz.prog 12 #[.int .i64 n, .slice A names.length c] w fun e w' => ∃ X : BX, e = .returned (.tuple #[.agg X.cells, .bool (inB n 0 4 && namesB names)]) ∧ X.g = (if inB n 0 4 && namesB names then idG n.toNat names else zeroG) ∧ RG w w' X := by
  have HA := Lib.hid (show ∀ W, Below w.heap.size w W → Cells W A (strs names) from fun W hb => hA.below hb)
  obtain ⟨w0, hw0, hb0, hs0, hR0⟩ := laid1 w (.cells ZB 31)
  have HB0 := Lib.hid hb0
  have HR0 := Lib.hid hR0
  have HN := Lib.hid (areNames_any A c names w0 hl hz (HA.out w0 hb0))
  have HW0 := Lib.hid (show w.alloc (.cells #[.int .i64 0, .slice none 0 0, .slice none 0 0, .int .i64 0, .slice none 0 0, .slice none 0 0] 31) = w0 from hw0.symm)
  clear hb0 hR0 hw0
  have HB1 := Lib.hid (Below.refl w0.heap.size w0)
  clear hA hz
  cases c0 : inB n 0 4
  · have HIN := Lib.hid (show ∀ w, Calls Tryz.prog 90 #[.int .i64 n, .int .i64 0, .int .i64 4] w (fun e w' => e = .returned (.bool false) ∧ w = w') from fun w => by have h := within_any n 0 4 w; rw [c0] at h; exact h)
    go_enter Tryz.func12, Tryz.ntmps12
    go_wp2_with fail
    rw [HW0.out]
    (with_reducible refine (HIN.out _).mono ?_)
    rintro e w' ⟨rfl, rfl⟩
    have hRW := (HB1.out.block w.heap.size (by omega)).trans HR0.out
    obtain ⟨z0, z1, z2, z3, z4, z5, f0, f1, f2, f3, f4, f5⟩ := row6f hRW
    clear hRW
    go_wp2_with fail
    have hf := fin6_of (X := zeroX) HB0.out HR0.out (by have := (Kept.of_below HB1.out (fun q => w.heap.size + 1 ≤ q)).size; omega) ((Kept.of_below HB1.out (fun q => w.heap.size + 1 ≤ q))) (zero_ob _ _)
    (try simp only [Exit.inBlock, Exit.then])
    refine bodyPost_ret (rcell2 rfl _ _ w.heap.size _ _ _ _ rfl hf.1 Tryz.underlying31 rfl (by kernel_rfl)) rfl ?_
    exact ⟨_, rfl, rfl, hf.2⟩
  obtain ⟨hn0, hn4⟩ := inB_true c0
  have HIN := Lib.hid (show ∀ w, Calls Tryz.prog 90 #[.int .i64 n, .int .i64 0, .int .i64 4] w (fun e w' => e = .returned (.bool true) ∧ w = w') from fun w => by have h := within_any n 0 4 w; rw [c0] at h; exact h)
  obtain ⟨m, rfl⟩ := Int.eq_ofNat_of_zero_le hn0
  clear c0
  cases c1 : namesB names
  · rw [c1] at HN
    clear c1
    go_enter Tryz.func12, Tryz.ntmps12
    go_wp2_with fail
    rw [HW0.out]
    (with_reducible refine (HIN.out _).mono ?_)
    rintro e w' ⟨rfl, rfl⟩
    go_wp2_with fail
    (with_reducible refine HN.out.mono ?_)
    rintro e w1 ⟨rfl, hb1⟩
    have HB2 := Lib.hid hb1
    clear hb1
    have hRW := (HB2.out.block w.heap.size (by omega)).trans HR0.out
    obtain ⟨z0, z1, z2, z3, z4, z5, f0, f1, f2, f3, f4, f5⟩ := row6f hRW
    clear hRW
    go_wp2_with fail
    have hf := fin6_of (X := zeroX) HB0.out HR0.out (by have := (Kept.of_below HB2.out (fun q => w.heap.size + 1 ≤ q)).size; omega) ((Kept.of_below HB2.out (fun q => w.heap.size + 1 ≤ q))) (zero_ob _ _)
    (try simp only [Exit.inBlock, Exit.then])
    refine bodyPost_ret (rcell2 rfl _ _ w.heap.size _ _ _ _ rfl hf.1 Tryz.underlying31 rfl (by kernel_rfl)) rfl ?_
    exact ⟨_, rfl, rfl, hf.2⟩
  rw [c1] at HN
  clear c1
  go_enter Tryz.func12, Tryz.ntmps12
  go_wp2_with fail
  rw [HW0.out]
  (with_reducible refine (HIN.out _).mono ?_)
  rintro e w' ⟨rfl, rfl⟩
  go_wp2_with fail
  (with_reducible refine HN.out.mono ?_)
  rintro e w1 ⟨rfl, hb1⟩
  have HB2 := Lib.hid hb1
  have HC := Lib.hid (identity_any m A c names w1 (by omega) hl (HA.out w1 (HB0.out.trans (hb1.mono HB0.out.size))))
  clear hb1
  go_wp2_with fail
  (with_reducible refine HC.out.mono ?_)
  rintro e w9 ⟨X, rfl, hXg, hr⟩
  obtain ⟨xr, xe, xnv, xsv, xov, xiv, xns, xls, xss, xos, xis⟩ := X
  obtain ⟨YN, dN, YS, dS, YO, dO, YI, dI, e1, e2, e3, e4⟩ := hr.ob.form
  dsimp only at e1 e2 e3 e4
  subst e1 e2 e3 e4
  have HXG := Lib.hid hXg
  have HB9 := Lib.hid (HB2.out.trans (hr.bel.mono HB2.out.size))
  have hsw := HB2.out.size
  have HR := Lib.hid hr
  clear hXg hr HC
  simp only [BX.cells]
  have hRW := (HB9.out.block w.heap.size (by omega)).trans HR0.out
  obtain ⟨z0, z1, z2, z3, z4, z5, f0, f1, f2, f3, f4, f5⟩ := row6f hRW
  clear hRW
  go_wp2_with fail
  have hf := fin6_of (X := ⟨xr, xe, .slice YN xns.length dN, .slice YS xss.length dS, .slice YO xos.length dO, .slice YI xis.length dI, xns, xls, xss, xos, xis⟩) HB0.out HR0.out (by have := (Kept.of_below HB9.out (fun q => w.heap.size + 1 ≤ q)).size; omega) ((Kept.of_below HB9.out (fun q => w.heap.size + 1 ≤ q))) (HR.out.ob.mono (by omega))
  (try simp only [Exit.inBlock, Exit.then])
  refine bodyPost_ret (rcell2 rfl _ _ w.heap.size _ _ _ _ rfl hf.1 Tryz.underlying31 rfl (by kernel_rfl)) rfl ?_
  exact ⟨_, rfl, (by first | exact HXG.out | (rw [if_pos rfl]; exact HXG.out)), hf.2⟩

/-- Operation o waits for i. -/
def waitsB (o : Oper) (i : Nat) : Bool := o.after.toList.any fun e => Region.binds .any e && e.on == i

section
variable {P : Program} {Q : Exit → Act → World → Prop} {id : Nat} {ops : Array Oper} {a : Act} {w : World} {slots : List (Option Tmp)} {eff : List Nat} {R : Nat → Value → World → Prop} {D : List Bool → World → Prop} {L : Nat → Bool} {act : Act} {W : World} {q : Nat} {o : Oper}

structure WJ (slots : List (Option Tmp)) (a : Act) (w : World) (R : Nat → Value → World → Prop) (eff : List Nat) (D : List Bool → World → Prop) (L : Nat → Bool) (act : Act) (W : World) : Prop where
  size : w.heap.size ≤ W.heap.size
  df : act.defers = a.defers
  sz : act.tmps.size = a.tmps.size
  out : ∀ s, some s ∉ slots → act.tmps[s]? = a.tmps[s]?
  old : ∀ i s, slots[i]? = some (some s) → L i = false → act.tmps[s]? = a.tmps[s]?
  has : ∀ q s, L q = true → slots[q]? = some (some s) → ∃ v, act.tmps[s]? = some v ∧ R q v W
  d : D (eff.map L) W

/-- What an operation finds. -/
structure WS (ops : Array Oper) (slots : List (Option Tmp)) (a : Act) (w : World) (R : Nat → Value → World → Prop) (eff : List Nat) (D : List Bool → World → Prop) (L : Nat → Bool) (act : Act) (W : World) (q : Nat) (o : Oper) : Prop where
  size : w.heap.size ≤ W.heap.size
  out : ∀ s, some s ∉ slots → act.tmps[s]? = a.tmps[s]?
  on : ∀ i, waitsB o i = true → L i = true
  off : ∀ i, (decide (i < ops.size) && reachB ops ops.size i q) = true → L i = false
  old : ∀ i {s}, slots[i]? = some (some s) → L i = false → act.tmps[s]? = a.tmps[s]?
  has : ∀ i {s}, waitsB o i = true → slots[i]? = some (some s) → ∃ v, act.tmps[s]? = some v ∧ R i v W
  d : D (eff.map L) W
theorem WS.val (h : WS ops slots a w R eff D L act W q o) (i : Nat) {s : Tmp} {z : Value} (hi : waitsB o i = true) (hs : slots[i]? = some (some s)) (hz : ∀ u, R i u W → u = z) : act.tmps[s]? = some z := by
  obtain ⟨u, h1, h2⟩ := h.has i hi hs
  rw [h1, hz u h2]

theorem upd_map : ∀ {l : List Nat} {q : Nat} {L : Nat → Bool}, l.contains q = false → l.map (upd L q) = l.map L
  | [], _, _, _ => rfl
  | x :: l, q, L, h => by
    simp only [List.contains_cons, Bool.or_eq_false_iff] at h
    have hx : x ≠ q := fun e => by rw [e] at h; simp at h
    rw [List.map_cons, List.map_cons, upd_other hx, upd_map h.2]

theorem wp_region_w (hm : P.follows .mixedOrders = true) (slots : List (Option Tmp)) (eff : List Nat) (R : Nat → Value → World → Prop) (D : List Bool → World → Prop)
    (hsl : ops.toList.map (·.dst) = slots) (hok : slotsOk ops slots a.tmps.size = true)
    (hR : ∀ q v W W', Kept (fun b => b < w.heap.size) W W' → R q v W → R q v W') (h0 : D (eff.map fun _ => false) w.drew)
    (step : ∀ (L : Nat → Bool) (act : Act) (W : World) (q : Nat) (o : Oper), WS ops slots a w R eff D L act W q o → ops[q]? = some o →
      ∀ K' : Act → World → Prop, (eff.contains q = false → ∀ v, R q v W → K' (act.put o.dst v) W) → (∀ v W', Kept (fun b => b < w.heap.size) W W' → R q v W' → D (eff.map (upd L q)) W' → K' (act.put o.dst v) W') →
        if Region.wanted o (yielded ops act.tmps) = true then Oper.wp P o act W K' Q else K' (act.put o.dst undef) W)
    (fin : ∀ (V : Nat → Value) (W : World), w.heap.size ≤ W.heap.size → D (eff.map fun q => decide (q < ops.size)) W → (∀ q s, slots[q]? = some (some s) → R q (V q) W) → Q .normal ⟨layV V 0 slots a.tmps, a.defers⟩ W) :
    (Code.region id ops true).wp P Q a w := by
  have hok2 := hok
  unfold slotsOk at hok
  simp only [Bool.and_eq_true] at hok
  obtain ⟨⟨hnd, hin⟩, hearly⟩ := hok
  have hlen : slots.length = ops.size := by rw [← hsl]; simp
  have hslot : ∀ (q : Nat) (o : Oper), ops[q]? = some o → slots[q]? = some o.dst := fun q o ho => by
    rw [← hsl, List.getElem?_map, Array.getElem?_toList, ho]; rfl
  have hear : ∀ (k : Nat) (o : Oper), ops[k]? = some o → ∀ e ∈ o.after, Region.binds .any e = true → e.on < k := fun k o ho e he hb => by
    have hk := (Array.getElem?_eq_some_iff.1 ho).1
    have h1 := hearly
    unfold earlyB at h1
    rw [List.all_eq_true] at h1
    have h2 := h1 k (List.mem_range.2 hk)
    rw [List.all_eq_true] at h2
    have h3 := h2 e (by rw [Array.getD_eq_getD_getElem?, ho]; exact Array.mem_toList_iff.2 he)
    rw [hb] at h3
    simpa using h3
  have hbnd : ∀ (k : Nat) (o : Oper), ops[k]? = some o → ∀ e ∈ o.after, Region.binds .any e = true → e.on < ops.size := fun k o ho e he hb => by
    have := hear k o ho e he hb
    have := (Array.getElem?_eq_some_iff.1 ho).1
    omega
  refine wp_region_dc hm (fun L act W => (∀ q, L q = true → q < ops.size) ∧ WJ slots a w R eff D L act W) ?_ ?_ ?_
  · exact ⟨fun _ h => (nomatch h), { size := Nat.le_refl _, df := rfl, sz := rfl, out := fun _ _ => rfl, old := fun _ _ _ _ => rfl, has := fun _ _ h => (nomatch h), d := h0 }⟩
  · intro L act W q o hJ2 hC hL ho hd K' hK'
    obtain ⟨hLs, hJ⟩ := hJ2
    have hqs : q < ops.size := (Array.getElem?_eq_some_iff.1 ho).1
    have hon : ∀ i, waitsB o i = true → L i = true := fun i hi => by
      obtain ⟨e, he, hb⟩ := List.any_eq_true.1 hi
      simp only [Bool.and_eq_true, beq_iff_eq] at hb
      rw [← hb.2]
      exact hd e (Array.mem_toList_iff.1 he) hb.1
    have hoff : ∀ i, (decide (i < ops.size) && reachB ops ops.size i q) = true → L i = false := fun i hi => by
      simp only [Bool.and_eq_true, decide_eq_true_eq] at hi
      cases h : L i
      · rfl
      rw [dc_reach hC _ i q hi.1 hbnd h hi.2] at hL; cases hL
    have hsq := hslot q o ho
    have hlu : ∀ x, upd L q x = true → x < ops.size := fun x hx => by
      by_cases h : x = q
      · rw [h]; exact hqs
      rw [upd_other h] at hx; exact hLs x hx
    have go : ∀ v W', Kept (fun b => b < w.heap.size) W W' → R q v W' → D (eff.map (upd L q)) W' → K' (act.put o.dst v) W' := fun v W' hb hr hd' => by
      refine hK' _ _ ⟨hlu, ?_⟩
      have hsz := Nat.le_trans hJ.size hb.size
      cases hdst : o.dst with
      | none =>
        rw [hdst] at hsq
        refine { size := hsz, df := hJ.df, sz := hJ.sz, out := hJ.out, old := fun i s hs hi => hJ.old i s hs (by by_cases h : i = q; (subst h; rw [upd_same] at hi; cases hi); rwa [upd_other h] at hi), has := fun e s he hs => ?_, d := hd' }
        have hne : e ≠ q := fun h => by subst h; rw [hsq] at hs; cases hs
        obtain ⟨u, h1, h2⟩ := hJ.has e s (by rw [upd_other hne] at he; exact he) hs
        exact ⟨u, h1, hR _ _ _ _ hb h2⟩
      | some d =>
        rw [hdst] at hsq
        have hdz : d < act.tmps.size := by rw [hJ.sz]; exact inO_at hin hsq
        refine { size := hsz, df := hJ.df, sz := by show (act.tmps.setIfInBounds d v).size = _; rw [Array.size_setIfInBounds]; exact hJ.sz, out := fun s hs => ?_, old := fun i s hs hi => ?_, has := fun e s he hs => ?_, d := hd' }
        · have hne : d ≠ s := fun h => hs (by subst h; exact List.mem_of_getElem? hsq)
          show (act.tmps.setIfInBounds d v)[s]? = _
          rw [Array.getElem?_setIfInBounds_ne hne]
          exact hJ.out s hs
        · have hiq : i ≠ q := fun h => by subst h; rw [upd_same] at hi; cases hi
          have hne : d ≠ s := fun h => by subst h; exact hiq (nodupO_at hnd hs hsq)
          show (act.tmps.setIfInBounds d v)[s]? = _
          rw [Array.getElem?_setIfInBounds_ne hne]
          exact hJ.old i s hs (by rwa [upd_other hiq] at hi)
        show ∃ u, (act.tmps.setIfInBounds d v)[s]? = some u ∧ _
        by_cases heq : e = q
        · subst heq
          rw [hsq] at hs
          injection hs with hs
          injection hs with hs
          subst hs
          exact ⟨v, Array.getElem?_setIfInBounds_self_of_lt hdz, hr⟩
        obtain ⟨u, h1, h2⟩ := hJ.has e s (by rw [upd_other heq] at he; exact he) hs
        have hne : d ≠ s := fun h => by subst h; exact heq (nodupO_at hnd hs hsq)
        exact ⟨u, by rw [Array.getElem?_setIfInBounds_ne hne]; exact h1, hR _ _ _ _ hb h2⟩
    exact step L act W q o { size := hJ.size, out := hJ.out, old := fun i s hs hi => hJ.old i s hs hi, on := hon, off := hoff, has := fun i s hi hs => hJ.has i s (hon i hi) hs, d := hJ.d } ho K' (fun he v hr => go v W (Kept.refl _ _) hr (by rw [upd_map he]; exact hJ.d)) go
  intro L act W hJ2 hfin
  obtain ⟨hLs, hJ⟩ := hJ2
  have hall : ∀ n q, q < n → q < ops.size → L q = true := by
    intro n
    induction n with
    | zero => intro q h; omega
    | succ n ih =>
      intro q hq hqs
      cases hl : L q with
      | true => rfl
      | false =>
        obtain ⟨e, he, hb, hon⟩ := hfin q _ (Array.getElem?_eq_getElem hqs) hl
        have h3 := hear q _ (Array.getElem?_eq_getElem hqs) e he hb
        rw [ih e.on (by omega) (by omega)] at hon
        cases hon
  have hall' : ∀ q, q < ops.size → L q = true := fun q hq => hall (q + 1) q (Nat.lt_succ_self _) hq
  have hlt : ∀ {q s}, slots[q]? = some (some s) → q < ops.size := fun {q s} h => by
    have := (List.getElem?_eq_some_iff.1 h).1
    omega
  let V : Nat → Value := fun q => match slots[q]? with
    | some (some s) => act.tmps[s]?.getD undef
    | _ => undef
  have hV : ∀ q s, slots[q]? = some (some s) → act.tmps[s]? = some (V q) ∧ R q (V q) W := fun q s hs => by
    obtain ⟨v, h1, h2⟩ := hJ.has q s (hall' q (hlt hs)) hs
    have e : V q = v := by
      show (match slots[q]? with | some (some s) => act.tmps[s]?.getD undef | _ => undef) = v
      rw [hs]
      show act.tmps[s]?.getD undef = v
      rw [h1]
      rfl
    rw [e]
    exact ⟨h1, h2⟩
  have hact : act = ⟨layV V 0 slots a.tmps, a.defers⟩ := by
    have ht : act.tmps = layV V 0 slots a.tmps := by
      apply Array.ext_getElem?
      intro s
      by_cases hs : some s ∈ slots
      · obtain ⟨q, hq, e⟩ := List.getElem_of_mem hs
        have hqs : slots[q]? = some (some s) := by rw [List.getElem?_eq_getElem hq, e]
        rw [(hV q s hqs).1, layV_in hnd hqs (inO_at hin hqs), Nat.zero_add]
      rw [hJ.out s hs, layV_out hs]
    show (⟨act.tmps, act.defers⟩ : Act) = _
    rw [hJ.df]
    exact congrArg (fun t => (⟨t, a.defers⟩ : Act)) ht
  have hLeq : (eff.map fun q => decide (q < ops.size)) = eff.map L := List.map_congr_left fun q _ => by
    by_cases h : q < ops.size
    · rw [hall' q h]; simp [h]
    cases hl : L q
    · simp [h]
    exact absurd (hLs q hl) h
  rw [hact]
  exact fin V W hJ.size (by rw [hLeq]; exact hJ.d) fun q s hs => (hV q s hs).2
end

/-- A block that was laid at N or above. -/
structure LitAt (N : Nat) (W : World) (g : Nat) (o : Obj) : Prop where
  lo : N ≤ g
  at_ : W.heap[g]? = some o
theorem LitAt.kept {N g : Nat} {W W' : World} {o : Obj} (h : LitAt N W g o) (hb : Kept (fun b => b < N) W W') : LitAt N W' g o :=
  ⟨h.lo, (hb.block g (Array.getElem?_eq_some_iff.1 h.at_).1 (by have := h.lo; omega)).trans h.at_⟩
theorem LitAt.new {N : Nat} {W : World} {o : Obj} (h : N ≤ W.heap.size) : LitAt N (W.alloc o) W.heap.size o := ⟨h, heap_alloc_new _ _⟩
theorem kept_alloc (S : Nat → Prop) (W : World) (o : Obj) : Kept S W (W.alloc o) := Kept.of_below ((Below.refl _ _).alloc (Nat.le_refl _) _) S

section
variable {P : Program} {Q : Exit → Act → World → Prop} {id : Nat} {ops : Array Oper} {a : Act} {w : World} {slots : List (Option Tmp)} {eff : List Nat} {R : Nat → Value → World → Prop} {D : List Bool → World → Prop} {L : Nat → Bool} {act : Act} {W : World} {q : Nat} {o : Oper}

theorem wp_region_x (hm : P.follows .mixedOrders = true) (slots : List (Option Tmp)) (eff : List Nat) (T : Nat → World → World → Prop) (R : Nat → Value → World → Prop) (D : List Bool → World → Prop)
    (hsl : ops.toList.map (·.dst) = slots) (hok : slotsOk ops slots a.tmps.size = true)
    (hTs : ∀ q W W', T q W W' → W.heap.size ≤ W'.heap.size) (hTr : ∀ q W, T q W W) (hR : ∀ e q v W W', reachB ops ops.size e q = false → T q W W' → R e v W → R e v W') (h0 : D (eff.map fun _ => false) w.drew)
    (step : ∀ (L : Nat → Bool) (act : Act) (W : World) (q : Nat) (o : Oper), WS ops slots a w R eff D L act W q o → ops[q]? = some o →
      ∀ K' : Act → World → Prop, (eff.contains q = false → ∀ v, R q v W → K' (act.put o.dst v) W) → (∀ v W', T q W W' → R q v W' → D (eff.map (upd L q)) W' → K' (act.put o.dst v) W') →
        if Region.wanted o (yielded ops act.tmps) = true then Oper.wp P o act W K' Q else K' (act.put o.dst undef) W)
    (fin : ∀ (V : Nat → Value) (W : World), w.heap.size ≤ W.heap.size → D (eff.map fun q => decide (q < ops.size)) W → (∀ q s, slots[q]? = some (some s) → R q (V q) W) → Q .normal ⟨layV V 0 slots a.tmps, a.defers⟩ W) :
    (Code.region id ops true).wp P Q a w := by
  have hok2 := hok
  unfold slotsOk at hok
  simp only [Bool.and_eq_true] at hok
  obtain ⟨⟨hnd, hin⟩, hearly⟩ := hok
  have hlen : slots.length = ops.size := by rw [← hsl]; simp
  have hslot : ∀ (q : Nat) (o : Oper), ops[q]? = some o → slots[q]? = some o.dst := fun q o ho => by
    rw [← hsl, List.getElem?_map, Array.getElem?_toList, ho]; rfl
  have hear : ∀ (k : Nat) (o : Oper), ops[k]? = some o → ∀ e ∈ o.after, Region.binds .any e = true → e.on < k := fun k o ho e he hb => by
    have hk := (Array.getElem?_eq_some_iff.1 ho).1
    have h1 := hearly
    unfold earlyB at h1
    rw [List.all_eq_true] at h1
    have h2 := h1 k (List.mem_range.2 hk)
    rw [List.all_eq_true] at h2
    have h3 := h2 e (by rw [Array.getD_eq_getD_getElem?, ho]; exact Array.mem_toList_iff.2 he)
    rw [hb] at h3
    simpa using h3
  have hbnd : ∀ (k : Nat) (o : Oper), ops[k]? = some o → ∀ e ∈ o.after, Region.binds .any e = true → e.on < ops.size := fun k o ho e he hb => by
    have := hear k o ho e he hb
    have := (Array.getElem?_eq_some_iff.1 ho).1
    omega
  refine wp_region_dc hm (fun L act W => (∀ q, L q = true → q < ops.size) ∧ WJ slots a w R eff D L act W) ?_ ?_ ?_
  · exact ⟨fun _ h => (nomatch h), { size := Nat.le_refl _, df := rfl, sz := rfl, out := fun _ _ => rfl, old := fun _ _ _ _ => rfl, has := fun _ _ h => (nomatch h), d := h0 }⟩
  · intro L act W q o hJ2 hC hL ho hd K' hK'
    obtain ⟨hLs, hJ⟩ := hJ2
    have hqs : q < ops.size := (Array.getElem?_eq_some_iff.1 ho).1
    have hon : ∀ i, waitsB o i = true → L i = true := fun i hi => by
      obtain ⟨e, he, hb⟩ := List.any_eq_true.1 hi
      simp only [Bool.and_eq_true, beq_iff_eq] at hb
      rw [← hb.2]
      exact hd e (Array.mem_toList_iff.1 he) hb.1
    have hoff : ∀ i, (decide (i < ops.size) && reachB ops ops.size i q) = true → L i = false := fun i hi => by
      simp only [Bool.and_eq_true, decide_eq_true_eq] at hi
      cases h : L i
      · rfl
      rw [dc_reach hC _ i q hi.1 hbnd h hi.2] at hL; cases hL
    have hnr : ∀ e, L e = true → reachB ops ops.size e q = false := fun e he => by
      cases h : reachB ops ops.size e q
      · rfl
      have := hoff e (by rw [h, Bool.and_true, decide_eq_true_eq]; exact hLs e he)
      rw [he] at this; cases this
    have hsq := hslot q o ho
    have hlu : ∀ x, upd L q x = true → x < ops.size := fun x hx => by
      by_cases h : x = q
      · rw [h]; exact hqs
      rw [upd_other h] at hx; exact hLs x hx
    have go : ∀ v W', T q W W' → R q v W' → D (eff.map (upd L q)) W' → K' (act.put o.dst v) W' := fun v W' hb hr hd' => by
      refine hK' _ _ ⟨hlu, ?_⟩
      have hsz := Nat.le_trans hJ.size (hTs _ _ _ hb)
      cases hdst : o.dst with
      | none =>
        rw [hdst] at hsq
        refine { size := hsz, df := hJ.df, sz := hJ.sz, out := hJ.out, old := fun i s hs hi => hJ.old i s hs (by by_cases h : i = q; (subst h; rw [upd_same] at hi; cases hi); rwa [upd_other h] at hi), has := fun e s he hs => ?_, d := hd' }
        have hne : e ≠ q := fun h => by subst h; rw [hsq] at hs; cases hs
        obtain ⟨u, h1, h2⟩ := hJ.has e s (by rw [upd_other hne] at he; exact he) hs
        exact ⟨u, h1, hR _ _ _ _ _ (hnr e (by first | exact he | (rw [upd_other hne] at he; exact he) | (rw [upd_other heq] at he; exact he))) hb h2⟩
      | some d =>
        rw [hdst] at hsq
        have hdz : d < act.tmps.size := by rw [hJ.sz]; exact inO_at hin hsq
        refine { size := hsz, df := hJ.df, sz := by show (act.tmps.setIfInBounds d v).size = _; rw [Array.size_setIfInBounds]; exact hJ.sz, out := fun s hs => ?_, old := fun i s hs hi => ?_, has := fun e s he hs => ?_, d := hd' }
        · have hne : d ≠ s := fun h => hs (by subst h; exact List.mem_of_getElem? hsq)
          show (act.tmps.setIfInBounds d v)[s]? = _
          rw [Array.getElem?_setIfInBounds_ne hne]
          exact hJ.out s hs
        · have hiq : i ≠ q := fun h => by subst h; rw [upd_same] at hi; cases hi
          have hne : d ≠ s := fun h => by subst h; exact hiq (nodupO_at hnd hs hsq)
          show (act.tmps.setIfInBounds d v)[s]? = _
          rw [Array.getElem?_setIfInBounds_ne hne]
          exact hJ.old i s hs (by rwa [upd_other hiq] at hi)
        show ∃ u, (act.tmps.setIfInBounds d v)[s]? = some u ∧ _
        by_cases heq : e = q
        · subst heq
          rw [hsq] at hs
          injection hs with hs
          injection hs with hs
          subst hs
          exact ⟨v, Array.getElem?_setIfInBounds_self_of_lt hdz, hr⟩
        obtain ⟨u, h1, h2⟩ := hJ.has e s (by rw [upd_other heq] at he; exact he) hs
        have hne : d ≠ s := fun h => by subst h; exact heq (nodupO_at hnd hs hsq)
        exact ⟨u, by rw [Array.getElem?_setIfInBounds_ne hne]; exact h1, hR _ _ _ _ _ (hnr e (by rw [upd_other heq] at he; exact he)) hb h2⟩
    exact step L act W q o { size := hJ.size, out := hJ.out, old := fun i s hs hi => hJ.old i s hs hi, on := hon, off := hoff, has := fun i s hi hs => hJ.has i s (hon i hi) hs, d := hJ.d } ho K' (fun he v hr => go v W (hTr _ _) hr (by rw [upd_map he]; exact hJ.d)) go
  intro L act W hJ2 hfin
  obtain ⟨hLs, hJ⟩ := hJ2
  have hall : ∀ n q, q < n → q < ops.size → L q = true := by
    intro n
    induction n with
    | zero => intro q h; omega
    | succ n ih =>
      intro q hq hqs
      cases hl : L q with
      | true => rfl
      | false =>
        obtain ⟨e, he, hb, hon⟩ := hfin q _ (Array.getElem?_eq_getElem hqs) hl
        have h3 := hear q _ (Array.getElem?_eq_getElem hqs) e he hb
        rw [ih e.on (by omega) (by omega)] at hon
        cases hon
  have hall' : ∀ q, q < ops.size → L q = true := fun q hq => hall (q + 1) q (Nat.lt_succ_self _) hq
  have hlt : ∀ {q s}, slots[q]? = some (some s) → q < ops.size := fun {q s} h => by
    have := (List.getElem?_eq_some_iff.1 h).1
    omega
  let V : Nat → Value := fun q => match slots[q]? with
    | some (some s) => act.tmps[s]?.getD undef
    | _ => undef
  have hV : ∀ q s, slots[q]? = some (some s) → act.tmps[s]? = some (V q) ∧ R q (V q) W := fun q s hs => by
    obtain ⟨v, h1, h2⟩ := hJ.has q s (hall' q (hlt hs)) hs
    have e : V q = v := by
      show (match slots[q]? with | some (some s) => act.tmps[s]?.getD undef | _ => undef) = v
      rw [hs]
      show act.tmps[s]?.getD undef = v
      rw [h1]
      rfl
    rw [e]
    exact ⟨h1, h2⟩
  have hact : act = ⟨layV V 0 slots a.tmps, a.defers⟩ := by
    have ht : act.tmps = layV V 0 slots a.tmps := by
      apply Array.ext_getElem?
      intro s
      by_cases hs : some s ∈ slots
      · obtain ⟨q, hq, e⟩ := List.getElem_of_mem hs
        have hqs : slots[q]? = some (some s) := by rw [List.getElem?_eq_getElem hq, e]
        rw [(hV q s hqs).1, layV_in hnd hqs (inO_at hin hqs), Nat.zero_add]
      rw [hJ.out s hs, layV_out hs]
    show (⟨act.tmps, act.defers⟩ : Act) = _
    rw [hJ.df]
    exact congrArg (fun t => (⟨t, a.defers⟩ : Act)) ht
  have hLeq : (eff.map fun q => decide (q < ops.size)) = eff.map L := List.map_congr_left fun q _ => by
    by_cases h : q < ops.size
    · rw [hall' q h]; simp [h]
    cases hl : L q
    · simp [h]
    exact absurd (hLs q hl) h
  rw [hact]
  exact fin V W hJ.size (by rw [hLeq]; exact hJ.d) fun q s hs => (hV q s hs).2
end

end Go.Proofs.YtijkdpdmclkmlaaGreatDoor
