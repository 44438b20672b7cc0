/- The law of inverses: plain. -/
import Derived.Test.YtijkdpdmclkmlaaGreatDoorJ45
import Derived.Test.YtijkdpdmclkmlaaGreatDoorJ37
set_option linter.unusedSimpArgs false
set_option linter.unusedVariables false
set_option maxRecDepth 100000
set_option maxHeartbeats 16000000
namespace Go.Proofs.YtijkdpdmclkmlaaGreatDoor
open Go.RowKit
theorem comp_ok {sig : List Ct} {a b : Gr} (ha : GoodP sig a) (hb : GoodP sig b) (hf : FitsP a b) (hc : GoodP sig (compG a b)) : compR sig a b = true := by
  unfold compR
  rw [(good_iff sig a).2 ha, (good_iff sig b).2 hb, (fits_iff a b).2 hf, (good_iff sig _).2 hc]
  rfl
theorem ident_ok {sig : List Ct} {n : Nat} {names : List ByteArray} (h : GoodP sig (idG n names)) : identR sig (idG n names) = true := by
  rw [identR_eq, (good_iff sig _).2 h, Bool.true_and]
  have e : idN (idG n names) = idG n names := by unfold idN; show idG (n : Int).toNat names = _; rw [Int.toNat_natCast]
  rw [e]
  exact (eqI_iff rfl).2 rfl
theorem und_perm (u : List Int) : undG (permG u) = u := by
  unfold undG permG
  simp only [List.map_map]
  have : ((fun p : Int => -1 - p) ∘ fun r : Int => -1 - r) = id := by funext p; simp only [Function.comp, id]; omega
  rw [this, List.map_id]
theorem permB_perm {u : List Int} (hu : OrdP u.length u) : permB (permG u) = true := by
  rw [permB_eq, und_perm]
  have h1 : placB (permG u) = true := by unfold placB permG; simp
  rw [h1, Bool.true_and]
  exact (order_iff _ _).2 hu
theorem invI_perm {u : List Int} (hu : OrdP u.length u) : invI (permG u) = permG (invL u.length u) := by
  unfold invI
  rw [if_pos (permB_perm hu), und_perm]
  show permG (invL (u.length : Int).toNat u) = _
  rw [Int.toNat_natCast]
theorem invB_perm {sig : List Ct} {u : List Int} (hu : OrdP u.length u) (hg : GoodP sig (permG u)) : invB sig (permG u) = true := by
  unfold invB
  rw [(good_iff sig _).2 hg, permB_perm hu]
  rfl

/-- What the law says of a bigraph that has an inverse. -/
structure InvLaw (sig : List Ct) (g : Gr) : Prop where
  c1 : compR sig (invI g) g = true
  i1 : identR sig (compG (invI g) g) = true
  c2 : compR sig g (invI g) = true
  i2 : identR sig (compG g (invI g)) = true
  b : invB sig (invI g) = true
  back : invI (invI g) = g
  gi : GoodP sig (invI g)

theorem inv_law_perm {sig : List Ct} {g : Gr} (hg : GoodP sig g) (hp : permB g = true) : InvLaw sig g := by
  have hpp := hp
  rw [permB_eq, Bool.and_eq_true] at hpp
  obtain ⟨n, hn⟩ := Int.eq_ofNat_of_zero_le hg.r.1
  have ho : OrdP (n : Int) (undG g) := ord_undG hp hn
  have hl : (undG g).length = n := by have := ho.1; omega
  have hge : g = permG (undG g) := perm_of hpp.1 (by rw [hn]; have := und_len g; omega)
  obtain ⟨t, ht⟩ : ∃ t, t = undG g := ⟨_, rfl⟩
  rw [← ht] at ho hl hge
  have ho' : OrdP (t.length : Int) t := by rw [hl]; exact ho
  have hl4 : t.length ≤ 4 := by have := hg.r.2; omega
  clear hpp hn
  subst hge
  have hui := inv_ord ho'
  have hul := inv_len ho'
  have hu : OrdP ((invL t.length t).length : Int) (invL t.length t) := by rw [hul]; exact hui
  have hgu : GoodP sig (permG (invL t.length t)) := perm_good hg.sg names_none hu (by rw [hul]; exact hl4)
  have hid : GoodP sig (idG t.length []) := id_good hg.sg names_none hl4
  have e1 : compG (permG (invL t.length t)) (permG t) = idG t.length [] := perm_inv_left ho'
  have e2 : compG (permG t) (permG (invL t.length t)) = idG t.length [] := perm_inv_right ho'
  have hi : invI (permG t) = permG (invL t.length t) := invI_perm ho'
  refine { c1 := ?_, i1 := ?_, c2 := ?_, i2 := ?_, b := ?_, back := ?_, gi := ?_ } <;> rw [hi]
  · exact comp_ok hgu hg (perm_fits hul.symm) (by rw [e1]; exact hid)
  · rw [e1]; exact ident_ok hid
  · exact comp_ok hg hgu (perm_fits hul) (by rw [e2]; exact hid)
  · rw [e2]; exact ident_ok hid
  · exact invB_perm hu hgu
  · rw [invI_perm hu, hul, inv_inv ho']
  exact hgu

theorem renB_of {sig : List Ct} {g : Gr} (h : RenP sig g) : invB sig g = true := by
  unfold invB
  have hn := (no_places h.good h.r0).1
  have ho : oneB g = true := by
    unfold oneB
    rw [allR_iff]
    intro i hi
    unfold oneAt
    rw [beq_iff_eq, h.e0, Int.zero_add]
    have hpt : ptsG g (i : Int) = [] := by unfold ptsG ptsTo; rw [hn]; rfl
    rw [hpt]
    unfold endsG endsTo
    rw [List.length_map, h.one i hi]
    rfl
  rw [(good_iff sig g).2 h.good, ho, show wirB g = true from by unfold wirB; rw [h.r0]; rfl, show (g.edges == 0) = true from by rw [h.e0]; rfl]
  simp
theorem ren_inv {sig : List Ct} {g : Gr} (h : RenP sig g) : RenP sig (invW g) := by
  have hl := ren_len h
  have hio := inv_ord (ren_ord h)
  have hil := inv_len (ren_ord h)
  have hN : (innerN g).length = g.inner.length := by unfold innerN; rw [List.length_map]
  have hgood : GoodP sig (invW g) :=
    { sg := h.good.sg, r := ⟨Int.le_refl _, by show (0 : Int) ≤ 4; omega⟩, n8 := Nat.zero_le _, s4 := Nat.zero_le _, e := ⟨Int.le_refl _, by show (0 : Int) ≤ 8; omega⟩, on := h.good.inn
      inn := by rw [innerN_inv]; exact h.good.on, nod := fun i x hx => by simp [invW] at hx, sit := fun p hp => by simp [invW] at hp
      inr := fun x hx => by
        obtain ⟨i, hi, rfl⟩ := List.mem_map.1 (show x ∈ (List.range g.outer.length).map _ from hx)
        have hi := List.mem_range.1 hi
        have hm : (invL g.outer.length (lksW g)).getD i 0 ∈ invL g.outer.length (lksW g) := List.mem_of_getElem? (getD_lt (by rw [hil]; exact hi))
        have := ord_lt hio hm
        exact ⟨this.1, by show _ < (0 : Int) + ((innerN g).length : Int); rw [hN, hl]; omega⟩ }
  refine { good := hgood, r0 := rfl, e0 := rfl, one := fun i hi => ?_ }
  replace hi : i < (innerN g).length := hi
  have hin : i < g.outer.length := by omega
  have hlen : (invW g).inner.length = g.outer.length := by unfold invW; simp
  rw [hlen]
  have hmem : (i : Int) ∈ invL g.outer.length (lksW g) := hio.2 i (by omega) (by omega)
  obtain ⟨j, hj, hje⟩ := List.getElem_of_mem hmem
  rw [hil] at hj
  have hat : ∀ k, k < g.outer.length → (wiA (invW g) k).2 = (invL g.outer.length (lksW g)).getD k 0 := fun k hk => by rw [invW_at hk]
  have hjv : (invL g.outer.length (lksW g)).getD j 0 = (i : Int) := by
    rw [List.getD_eq_getElem?_getD, List.getElem?_eq_getElem (by rw [hil]; exact hj), Option.getD_some, hje]
  refine one_filter hj (by rw [hat j hj, hjv]; exact beq_self_eq_true _) fun k hk hkv => ?_
  rw [hat k hk, beq_iff_eq] at hkv
  exact ord_inj hio (by rw [hil]; exact hk) (by rw [hil]; exact hj) (by rw [hkv, hjv])
theorem inv_law_ren {sig : List Ct} {g : Gr} (h : RenP sig g) (hpb : permB g = false) : InvLaw sig g := by
  have hl := ren_len h
  have hr2 := ren_inv h
  have hN : (innerN g).length = g.inner.length := by unfold innerN; rw [List.length_map]
  have hpb2 : permB (invW g) = false := by
    cases hp : permB (invW g)
    · rfl
    exfalso
    obtain ⟨_, _, h3, _⟩ := perm_parts hp
    replace h3 : innerN g = [] := h3
    rw [h3] at hN
    have hin : g.inner = [] := List.length_eq_zero_iff.1 (by simpa using hN.symm)
    have hou : g.outer = [] := List.length_eq_zero_iff.1 (by rw [← hl, hin]; rfl)
    obtain ⟨hnn, hss⟩ := no_places h.good h.r0
    have : permB g = true := by
      rw [permB_eq]
      unfold placB undG
      rw [hnn, hin, hou, hss, h.e0, h.r0]
      have : orderB 0 ([] : List Int) = true := (order_iff _ _).2 ⟨rfl, fun x h1 h2 => by omega⟩
      simp [this]
    rw [hpb] at this
    cases this
  have hi : invI g = invW g := by unfold invI; rw [hpb, if_neg (by decide)]; exact invIG_ren h
  have hi2 : invI (invW g) = g := by unfold invI; rw [hpb2, if_neg (by decide), invIG_ren hr2, ren_inv_inv h]
  have hss := (no_places h.good h.r0).2
  have f1 : FitsP (invW g) g := ⟨by show ((0 : Nat) : Int) = g.roots; rw [h.r0]; rfl, innerN_inv g⟩
  have f2 : FitsP g (invW g) := ⟨by rw [hss]; rfl, rfl⟩
  have e1 := ren_inv_left h
  have e2 := ren_inv_right h
  have d1 : GoodP sig (idG 0 (innerN g)) := id_good h.good.sg h.good.inn (by omega)
  have d2 : GoodP sig (idG 0 g.outer) := id_good h.good.sg h.good.on (by omega)
  refine { c1 := ?_, i1 := ?_, c2 := ?_, i2 := ?_, b := ?_, back := ?_, gi := ?_ } <;> rw [hi]
  · exact comp_ok hr2.good h.good f1 (by rw [e1]; exact d1)
  · rw [e1]; exact ident_ok d1
  · exact comp_ok h.good hr2.good f2 (by rw [e2]; exact d2)
  · rw [e2]; exact ident_ok d2
  · exact renB_of hr2
  · exact hi2
  exact hr2.good
theorem inv_law {sig : List Ct} {g : Gr} (h : invB sig g = true) : InvLaw sig g := by
  unfold invB at h
  rw [Bool.and_eq_true] at h
  have hg := (good_iff sig g).1 h.1
  cases hp : permB g
  · have h2 := h.2
    rw [hp, Bool.false_or] at h2
    exact inv_law_ren (ren_of hg (by rw [renR_alt, h.1, Bool.true_and]; exact h2)) hp
  exact inv_law_perm hg hp

end Go.Proofs.YtijkdpdmclkmlaaGreatDoor
