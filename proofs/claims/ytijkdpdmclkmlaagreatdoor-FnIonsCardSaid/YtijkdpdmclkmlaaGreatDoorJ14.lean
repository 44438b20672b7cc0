/- The points of a link: the reference's lists walked. The points of a link: the program's lists walked. -/
import Derived.Test.YtijkdpdmclkmlaaGreatDoorProg
import Derived.Test.YtijkdpdmclkmlaaGreatDoorJ0
import Derived.Test.YtijkdpdmclkmlaaGreatDoorJ6
import Derived.Test.YtijkdpdmclkmlaaGreatDoorJ9
set_option linter.unusedSimpArgs false
set_option linter.unusedVariables false
set_option maxRecDepth 100000
set_option maxHeartbeats 16000000
namespace Go.Proofs.YtijkdpdmclkmlaaGreatDoor
open Go.RowKit
abbrev I2 := Int × Int
def pr2 (x : I2) : List Value := [.int .i64 x.1, .int .i64 x.2]
theorem el_a2G : El Tryz.prog 117 152 2 16 := El.mk' Tryz.underlying117 (by kernel_rfl : _ = some (some (.agg #[.int .i64 0, .int .i64 0]), 2, 16)) rfl (by decide)

def lksTo (ls : List Int) (i : Nat) (link : Int) (k : Nat) : List I2 := ((List.range k).filter fun j => ls.getD j 0 == link).map fun j : Nat => ((i : Int), (j : Int))
def ptsTo (g : Gr) (link : Int) (n : Nat) : List I2 := (List.range n).flatMap fun i => lksTo (nodA g i).2.2 i link (nodA g i).2.2.length
def endsTo (g : Gr) (link : Int) (n : Nat) : List ByteArray := ((List.range n).filter fun i => (wiA g i).2 == link).map fun i => (wiA g i).1
def ptsG (g : Gr) (link : Int) : List I2 := ptsTo g link g.nodes.length
def endsG (g : Gr) (link : Int) : List ByteArray := endsTo g link g.inner.length

theorem lks_yes {ls : List Int} {i : Nat} {link : Int} {k : Nat} (h : (ls.getD k 0 == link) = true) : lksTo ls i link (k + 1) = lksTo ls i link k ++ [((i : Int), (k : Int))] := by
  unfold lksTo
  rw [List.range_succ, List.filter_append, List.map_append]
  simp only [List.filter_cons, h, if_true, List.filter_nil, List.map_cons, List.map_nil]
theorem lks_no {ls : List Int} {i : Nat} {link : Int} {k : Nat} (h : (ls.getD k 0 == link) = false) : lksTo ls i link (k + 1) = lksTo ls i link k := by
  unfold lksTo
  rw [List.range_succ, List.filter_append, List.map_append]
  simp only [List.filter_cons, h, List.filter_nil, List.map_nil, List.append_nil]
  simp
theorem pts_next (g : Gr) (link : Int) (n : Nat) : ptsTo g link (n + 1) = ptsTo g link n ++ lksTo (nodA g n).2.2 n link (nodA g n).2.2.length := by
  unfold ptsTo
  rw [List.range_succ, List.flatMap_append]
  simp
theorem ends_yes {g : Gr} {link : Int} {k : Nat} (h : ((wiA g k).2 == link) = true) : endsTo g link (k + 1) = endsTo g link k ++ [(wiA g k).1] := by
  unfold endsTo
  rw [List.range_succ, List.filter_append, List.map_append]
  simp only [List.filter_cons, h, if_true, List.filter_nil, List.map_cons, List.map_nil]
theorem ends_no {g : Gr} {link : Int} {k : Nat} (h : ((wiA g k).2 == link) = false) : endsTo g link (k + 1) = endsTo g link k := by
  unfold endsTo
  rw [List.range_succ, List.filter_append, List.map_append]
  simp only [List.filter_cons, h, List.filter_nil, List.map_nil, List.append_nil]
  simp
theorem lks_len (ls : List Int) (i : Nat) (link : Int) (k : Nat) : (lksTo ls i link k).length ≤ k := by
  unfold lksTo
  rw [List.length_map]
  have := List.length_filter_le (fun j => ls.getD j 0 == link) (List.range k)
  rwa [List.length_range] at this
theorem pts_len {g : Gr} (hs : SmallG g) (link : Int) : ∀ n, n ≤ g.nodes.length → (ptsTo g link n).length ≤ n * 1000
  | 0, _ => by simp [ptsTo]
  | n + 1, h => by
    rw [pts_next, List.length_append]
    have h1 := pts_len hs link n (by omega)
    have h2 := lks_len (nodA g n).2.2 n link (nodA g n).2.2.length
    have h3 : (nodA g n).2.2.length ≤ 1000 := by rw [nodA_get (by omega)]; exact hs.links _ (List.getElem_mem _)
    omega
theorem ends_len (g : Gr) (link : Int) (n : Nat) : (endsTo g link n).length ≤ n := by
  unfold endsTo
  rw [List.length_map]
  have := List.length_filter_le (fun i => (wiA g i).2 == link) (List.range n)
  rwa [List.length_range] at this
theorem pr2_one (i k : Int) : ∀ u ∈ ([.int .i64 i, .int .i64 k] : List Value), u.oneCell' = true := by
  intro u hu
  simp at hu
  rcases hu with rfl | rfl <;> rfl
theorem pr2_app (l : List I2) (x : I2) : (l ++ [x]).flatMap pr2 = l.flatMap pr2 ++ [.int .i64 x.1, .int .i64 x.2] := by
  rw [List.flatMap_append]
  simp [pr2]

theorem pointsOf_any (g : Gr) (nv sv ov iv : Value) (link : Int) (w : World) (hs : SmallG g) (hG : RGr w nv sv ov iv g) :
    Calls Tryz.prog 159 #[.agg #[.int .i64 g.roots, nv, sv, .int .i64 g.edges, ov, iv], .int .i64 link] w fun e w' => ∃ r q, e = .returned (.tuple #[r, q]) ∧ w'.ownsRow w.heap.size 152 2 r (ptsG g link).length ((ptsG g link).flatMap pr2) ∧ w'.ownsRow w.heap.size 9 1 q (endsG g link).length (strs (endsG g link)) ∧ Below w.heap.size w w' := by
  have HN := Lib.hid hG.n
  have HIG := Lib.hid hG.i
  obtain ⟨AN, cN, AS, cS, AO, cO, AI, cI, rfl, rfl, rfl, rfl⟩ := hG.form
  have HIN := Lib.hid (show ∀ W, Below w.heap.size w W → RSl RWi 2 W (.slice AI g.inner.length cI) g.inner from fun W hb => HIG.out.below RWi_keep hb)
  have h1 := hs.nodes
  have h2 := hs.inner
  have HPL := Lib.hid (fun n h => pts_len hs link n h)
  have HLK := Lib.hid (show ∀ i, i < g.nodes.length → (nodA g i).2.2.length ≤ 1000 from fun i h => by rw [nodA_get h]; exact hs.links _ (List.getElem_mem h))
  obtain ⟨w0, hw0, hb0, hsz0, bx0⟩ := laid1 w (.cells #[.int .i64 g.roots, .slice AN g.nodes.length cN, .slice AS g.sites.length cS, .int .i64 g.edges, .slice AO g.outer.length cO, .slice AI g.inner.length cI] 31)
  have HB0 := Lib.hid hb0
  have HX0 := Lib.hid bx0
  have HW0 := Lib.hid hw0
  clear hs hG hb0 bx0 hw0
  go_enter Tryz.func159, Tryz.ntmps159
  go_wp2_with fail
  rw [← HW0.out]
  go_loopw [6, 19] (fun u i wr => ∃ k : Nat, k ≤ g.nodes.length ∧ i = .int .i64 k ∧ wr.ownsRow w0.heap.size 152 2 u (ptsTo g link k).length ((ptsTo g link k).flatMap pr2) ∧ wr.ownsRow w0.heap.size 9 1 (.slice (some ⟨w.heap.size + 1 + 1, 0, none⟩) 0 0) 0 [] ∧ Below w0.heap.size w0 wr)
    (fun _ i _ => g.nodes.length - (intOf i).toNat)
  case atStart =>
    have hp := World.ownsRow_made (e := 152) (size := 2) w0 #[] 0 (Nat.le_refl _) (Nat.zero_le _) rfl
    have hq := made_rowG (w0.alloc (.cells #[] 152)) 9
    rw [World.size_alloc] at hq
    have hq2 := owns_mono hq (Nat.le_succ _)
    rw [hsz0] at hp hq2 ⊢
    exact ⟨0, Nat.zero_le _, rfl, hp.alloc _, hq2, by rw [← hsz0]; exact ((Below.refl _ _).alloc (Nat.le_refl _) _).alloc (by simp) _⟩
  obtain ⟨i, hi, rfl, hown, hnm, hbel⟩ := hrel
  have HNM := Lib.hid hnm
  clear hnm
  have hszr := hbel.size
  have HOI := Lib.hid hown
  obtain ⟨AU, cU, rfl, hown⟩ := owns_form hown
  have i1 : wr.cell? ⟨w.heap.size, 1, none⟩ = some (.slice AN g.nodes.length cN) := cell_of_row _ _ _ _ _ _ ((hbel.block _ (by omega)).trans HX0.out)
  have hpl := HPL.out i hi
  by_cases hlt : i < g.nodes.length
  · have hz := HB0.out.trans (hbel.mono HB0.out.size)
    obtain ⟨b, o, c, AL, d, ev, k0, k1, k2, kL⟩ := nod_at HN.out hlt
    rw [← nodA_get hlt] at k0 k1 k2 kL
    have HL := Lib.hid (show ∀ W, Below w.heap.size w W → Cells W AL (ints (nodA g i).2.2) from fun W hb => kL.below hb)
    have k0 := cell_below hz k0 (lt_of_cell k0)
    have k1 := cell_below hz k1 (lt_of_cell k1)
    have k2 := cell_below hz k2 (lt_of_cell k2)
    have HO := Lib.hid hown
    have HBE := Lib.hid hbel
    have HPN := Lib.hid (pts_next g link i)
    have hlk := HLK.out i hlt
    have b0 : (0 : Int) ≤ (i : Int) := by omega
    have b1 : (i : Int) < (g.nodes.length : Int) := by omega
    cases ev
    clear hown hbel kL hz
    go_wp2_with fail
    obtain ⟨wa, hwa⟩ : ∃ wa, wa = wr := ⟨_, rfl⟩
    subst hwa
    clear i1 k0 k1 k2
    go_loopw [6, 27] (fun u z wr => ∃ k : Nat, k ≤ (nodA g i).2.2.length ∧ z = .int .i64 k ∧ wr.ownsRow w0.heap.size 152 2 u (ptsTo g link i ++ lksTo (nodA g i).2.2 i link k).length ((ptsTo g link i ++ lksTo (nodA g i).2.2 i link k).flatMap pr2) ∧ wr.ownsRow w0.heap.size 9 1 (.slice (some ⟨w.heap.size + 1 + 1, 0, none⟩) 0 0) 0 [] ∧ Below w0.heap.size w0 wr)
      (fun _ z _ => (nodA g i).2.2.length - (intOf z).toNat)
    case atStart => exact ⟨0, Nat.zero_le _, rfl, by simp only [lksTo, List.range_zero, List.filter_nil, List.map_nil, List.append_nil]; exact HO.out.alloc _, HNM.out.alloc _, HBE.out.alloc hszr _⟩
    obtain ⟨k, hk, rfl, hown, hnm, hbel⟩ := hrel
    obtain ⟨AV, cV, rfl, hown⟩ := owns_form hown
    have hsz := hbel.size
    have hz := HB0.out.trans (hbel.mono HB0.out.size)
    have kL := HL.out wr hz
    have hll := lks_len (nodA g i).2.2 i link k
    have hql : (ptsTo g link i ++ lksTo (nodA g i).2.2 i link k).length ≤ 2000000 := by rw [List.length_append]; omega
    have HNM2 := Lib.hid hnm
    clear hnm hz
    by_cases hkl : k < (nodA g i).2.2.length
    · obtain ⟨bl, ol, eA, kk⟩ := kL.int hkl
      have l0 := kk k hkl
      subst eA
      have HO2 := Lib.hid hown
      have HBE2 := Lib.hid hbel
      have HYS := Lib.hid (fun h => lks_yes (ls := (nodA g i).2.2) (i := i) (link := link) (k := k) h)
      have HNO := Lib.hid (fun h => lks_no (ls := (nodA g i).2.2) (i := i) (link := link) (k := k) h)
      clear kk hown hbel kL
      generalize (nodA g i).2.2.getD k 0 = y at *
      cases hy : (y == link)
      · have HQ := Lib.hid (HNO.out hy)
        have hy2 : ¬ y = link := by simpa using hy
        go_wp2_with fail
        go_roundw
        case rel => exact ⟨k + 1, by omega, by go_num, by rw [HQ.out]; exact HO2.out, HNM2.out, HBE2.out⟩
        case measure => simp [intOf]; omega
      have HQ := Lib.hid (HYS.out hy)
      have hy2 : y = link := by simpa using hy
      go_wp2_with (at_builtin; refine wpList_app el_a2G rfl _ _ rfl w0.heap.size _ _ _ rfl HO2.out [.int .i64 (i : Int), .int .i64 (k : Int)] rfl rfl rfl (pr2_one _ _) (by omega) hsz ?_; intro v2 w2 ho hk2 hm2)
      have HO3 := Lib.hid (show w2.ownsRow w0.heap.size 152 2 v2 (ptsTo g link i ++ lksTo (nodA g i).2.2 i link (k + 1)).length ((ptsTo g link i ++ lksTo (nodA g i).2.2 i link (k + 1)).flatMap pr2) from by
        rw [HQ.out, ← List.append_assoc, pr2_app, List.length_append (bs := [((i : Int), (k : Int))])]
        exact ho)
      have HNM3 := Lib.hid (ownsK HNM2.out hk2 (fun q hq => ownsA HNM2.out HO2.out (by decide) q hq))
      have HB3 := Lib.hid (below_kept HBE2.out hk2 (fun q hq => (HO2.out.lt q hq).1) hsz)
      clear ho hk2 hm2
      go_wp2_with fail
      go_roundw
      case rel => exact ⟨k + 1, by omega, by go_num, HO3.out, HNM3.out, HB3.out⟩
      case measure => simp [intOf]; omega
    obtain rfl : k = (nodA g i).2.2.length := by omega
    have HO2 := Lib.hid hown
    have HBE2 := Lib.hid hbel
    clear hown hbel kL
    go_wp2_with fail
    go_roundw
    case rel => exact ⟨i + 1, by omega, by go_num, by rw [HPN.out]; exact HO2.out, HNM2.out, HBE2.out⟩
    case measure => simp [intOf]; omega
  obtain rfl : i = g.nodes.length := by omega
  have HO := Lib.hid hown
  have HBE := Lib.hid hbel
  have i5 : wr.cell? ⟨w.heap.size, 5, none⟩ = some (.slice AI g.inner.length cI) := cell_of_row _ _ _ _ _ _ ((hbel.block _ (by omega)).trans HX0.out)
  clear hown hbel
  go_wp2_with fail
  obtain ⟨wa, hwa⟩ : ∃ wa, wa = wr := ⟨_, rfl⟩
  subst hwa
  clear i1 i5
  go_loopw [7, 46] (fun u z wr => ∃ k : Nat, k ≤ g.inner.length ∧ z = .int .i64 k ∧ wr.ownsRow w0.heap.size 9 1 u (endsTo g link k).length (strs (endsTo g link k)) ∧ wr.ownsRow w0.heap.size 152 2 (.slice AU (ptsTo g link g.nodes.length).length cU) (ptsTo g link g.nodes.length).length ((ptsTo g link g.nodes.length).flatMap pr2) ∧ Below w0.heap.size w0 wr)
    (fun _ z _ => g.inner.length - (intOf z).toNat)
  case atStart => exact ⟨0, Nat.zero_le _, rfl, HNM.out, HO.out, HBE.out⟩
  obtain ⟨k, hk, rfl, hown, hpr, hbel⟩ := hrel
  obtain ⟨AV, cV, rfl, hown⟩ := owns_form hown
  have hsz := hbel.size
  have hel := ends_len g link k
  have HPR := Lib.hid hpr
  clear hpr
  by_cases hkl : k < g.inner.length
  · obtain ⟨b, o, c, ev, k0, k1⟩ := wi_at (HIN.out wr (HB0.out.trans (hbel.mono HB0.out.size))) hkl
    cases ev
    rw [← wiA_get hkl] at k0 k1
    have HYS := Lib.hid (fun h => ends_yes (g := g) (link := link) (k := k) h)
    have HNO := Lib.hid (fun h => ends_no (g := g) (link := link) (k := k) h)
    have HO2 := Lib.hid hown
    have HBE2 := Lib.hid hbel
    clear hown hbel
    generalize (wiA g k).1 = s at *
    generalize (wiA g k).2 = y at *
    cases hy : (y == link)
    · have HQ := Lib.hid (HNO.out hy)
      have hy2 : ¬ y = link := by simpa using hy
      go_wp2_with fail
      go_roundw
      case rel => exact ⟨k + 1, by omega, by go_num, by rw [HQ.out]; exact HO2.out.alloc _, HPR.out.alloc _, HBE2.out.alloc hsz _⟩
      case measure => simp [intOf]; omega
    have HQ := Lib.hid (HYS.out hy)
    have hy2 : y = link := by simpa using hy
    go_wp2_with (at_builtin; refine wpList_app el_strG rfl _ _ rfl w0.heap.size _ _ _ rfl (HO2.out.alloc _) [.string s] rfl (by simp) rfl (one1 rfl) (by omega) (by simp; omega) ?_; intro v2 w2 ho hk2 hm2)
    have HO3 := Lib.hid (show w2.ownsRow w0.heap.size 9 1 v2 (endsTo g link (k + 1)).length (strs (endsTo g link (k + 1))) from by
      rw [HQ.out, List.length_append, show strs (endsTo g link k ++ [s]) = strs (endsTo g link k) ++ [.string s] from by simp [strs]]
      exact ho)
    have HPR3 := Lib.hid (ownsK (HPR.out.alloc _) hk2 (fun q hq => ownsA HPR.out HO2.out (by decide) q hq))
    have HB3 := Lib.hid (below_kept (HBE2.out.alloc hsz _) hk2 (fun q hq => (HO2.out.lt q hq).1) (by simp; omega))
    clear ho hk2 hm2
    go_wp2_with fail
    go_roundw
    case rel => exact ⟨k + 1, by omega, by go_num, HO3.out, HPR3.out, HB3.out⟩
    case measure => simp [intOf]; omega
  obtain rfl : k = g.inner.length := by omega
  have HO2 := Lib.hid (owns_mono hown HB0.out.size)
  have HP2 := Lib.hid (owns_mono HPR.out HB0.out.size)
  have HBE2 := Lib.hid (HB0.out.trans (hbel.mono HB0.out.size))
  clear hown hbel
  go_wp2_with fail
  go_ret2
  exact ⟨_, _, rfl, HP2.out, HO2.out, HBE2.out⟩

end Go.Proofs.YtijkdpdmclkmlaaGreatDoor
