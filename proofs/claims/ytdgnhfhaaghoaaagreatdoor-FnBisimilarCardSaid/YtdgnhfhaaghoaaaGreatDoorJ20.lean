/- Slices of strings read; the first that is equal; for each text the first that is equal to it: the program walked. DERIVED: THE SHELF's CONTRACTS AT THIS DUMP, IN PLAIN WORDS (tools/lay-plain.mjs out of 'YtdgnhfhaaghoaaaGreatDoorShelfIA.lean', which tools/lay-shelf.mjs wrote): THE SAME DECLARATIONS UNDER THE SAME NAMES: 'import', 'namespace', 'open', 'def', 'theorem' AND NOTHING ELSE: no command of the shelf's: FOR A HAND-IN. Each laying: the table of numbers ('.._ren') and one theorem, a field a fact of the dump's own or the kernel's comparison; each contract: ONE APPLICATION. Numbers written behind a word: the program walked. The walk of areSteps: the steps are in range and strictly ascending. -/
import Derived.Test.YtdgnhfhaaghoaaaGreatDoorProg
import Derived.Test.YtdgnhfhaaghoaaaGreatDoorJ2
import Derived.Test.YtdgnhfhaaghoaaaGreatDoorJ7
import Derived.Test.YtdgnhfhaaghoaaaGreatDoorJ12
import Derived.Ground.NamesProg
import Derived.Shelf.Strconv.Itoa3
import Derived.Test.YtdgnhfhaaghoaaaGreatDoorJ0
import Derived.IntWalk
set_option linter.unusedSimpArgs false
set_option linter.unusedVariables false
namespace Go.Proofs.YtdgnhfhaaghoaaaGreatDoor
open Go.RowKit

abbrev strs (ls : List ByteArray) : List Value := ls.map Value.string
theorem getElem?_strs (ls : List ByteArray) (j : Nat) (h : j < ls.length) : (strs ls)[j]? = some (.string (ls.getD j default)) := by
  simp [strs, List.getD, h]
theorem Cells.str {w : World} {A : Option Addr} {ls : List ByteArray} (h : Cells w A (strs ls)) {k : Nat} (hk : k < ls.length) :
    ∃ b o, A = some ⟨b, o, none⟩ ∧ ∀ j, j < ls.length → w.cell? ⟨b, o + j, none⟩ = some (.string (ls.getD j default)) := by
  obtain ⟨b, o, e, hc⟩ := h.at_ (k := k) (by simpa [strs] using hk)
  exact ⟨b, o, e, fun j hj => hc j _ (getElem?_strs ls j hj)⟩

set_option maxHeartbeats 1000000 in
theorem indexS_any (A : Option Addr) (c : Nat) (ls : List ByteArray) (x : ByteArray) (w : World) (hn : ls.length ≤ 16777216) (hA : Cells w A (strs ls)) :
    Calls Tryz.prog 172 #[.slice A ls.length c, .string x] w fun e w' => e = .returned (.int .i64 (idxR ls.length fun k => decide (ls.getD k default = x))) ∧ w = w' := by
  obtain ⟨p, hp⟩ : ∃ p : Nat → Bool, p = fun k => decide (ls.getD k default = x) := ⟨_, rfl⟩
  rw [← hp]
  have HP := Lib.hid (fun k => show p k = decide (ls.getD k default = x) from by rw [hp])
  clear hp
  go_enter Tryz.func172, Tryz.ntmps172
  go_wp2
  go_loop [8] (fun i => ∃ k : Nat, k ≤ ls.length ∧ i = .int .i64 k ∧ NoB p k) (fun i => ls.length - (intOf i).toNat)
  case atStart => exact ⟨0, Nat.zero_le _, rfl, fun j hj => by omega⟩
  case round =>
    obtain ⟨k, hk, rfl, hall⟩ := hrel
    have HALL := Lib.hid hall
    clear hall
    by_cases hlt : k < ls.length
    · obtain ⟨b, o, rfl, hc⟩ := hA.str hlt
      have c0 := hc k hlt
      by_cases he : ls.getD k default = x
      · have HY := Lib.hid (idxR_some hlt HALL.out (by rw [HP.out]; simpa using he))
        have hee := str_eq x
        rw [he] at c0
        clear hc hA he
        go_wp2_with fail
        go_ret
        exact ⟨by rw [HY.out]; rfl, rfl⟩
      · have HN := Lib.hid (show NoB p (k + 1) from none_next HALL.out (by rw [HP.out]; simpa using he))
        have hee := str_ne (fun h => he h.symm)
        clear hc hA he
        generalize ls.getD k default = y at *
        go_wp2_with fail
        go_round
        case rel => exact ⟨k + 1, by omega, by go_num, HN.out⟩
        case measure => simp [intOf]; omega
    · obtain rfl : k = ls.length := by omega
      have HF := Lib.hid (idxR_none HALL.out)
      go_wp2_with fail
      go_ret
      exact ⟨by rw [HF.out]; rfl, rfl⟩

set_option maxRecDepth 100000 in
set_option maxHeartbeats 4000000 in
theorem least_any (A : Option Addr) (c : Nat) (ls : List ByteArray) (w : World) (hn : ls.length ≤ 1000000) (hA : Cells w A (strs ls)) :
    Calls Tryz.prog 124 #[.slice A ls.length c] w fun e w' => ∃ r, e = .returned r ∧ w'.ownsRow w.heap.size 3 1 r (firstOf ls).length (ints (firstOf ls)) ∧ Below w.heap.size w w' := by
  obtain ⟨i0, hi, hz0, hz1, hz2⟩ := info_parts info_ci
  have HA := Lib.hid (show ∀ W, Below w.heap.size w W → Cells W A (strs ls) from fun W hb => hA.below hb)
  have hlen := first_len ls
  have HALL := Lib.hid (show (firstOf ls).take ls.length = firstOf ls from List.take_of_length_le (by omega))
  have HT := Lib.hid (fun k (h : k < ls.length) => first_take h)
  have hown0 := World.ownsRow_made (e := 3) (size := 1) w #[] 0 (Nat.le_refl _) (Nat.zero_le _) rfl
  have HOWN := Lib.hid hown0
  have HB0 := Lib.hid ((Below.refl w.heap.size w).alloc (Nat.le_refl _) (.cells #[] 3))
  have HLEN := Lib.hid hlen
  clear hA hown0 hlen
  go_enter Tryz.func124, Tryz.ntmps124
  go_wp2_with fail
  go_loopw [3, 9] (fun u i wr => ∃ k : Nat, k ≤ ls.length ∧ i = .int .i64 k ∧ wr.ownsRow w.heap.size 3 1 u k (ints ((firstOf ls).take k)) ∧ Below w.heap.size w wr)
    (fun _ i _ => ls.length - (intOf i).toNat)
  case atStart => exact ⟨0, Nat.zero_le _, rfl, HOWN.out, HB0.out⟩
  case round =>
    clear HOWN HB0
    obtain ⟨k, hk, rfl, hown, hbel⟩ := hrel
    obtain ⟨AO, cO, rfl, hown⟩ := owns_form hown
    have hsz := hbel.size
    by_cases hlt : k < ls.length
    · have hA := HA.out wr hbel
      have HX := Lib.hid (indexS_any A c ls (ls.getD k default) wr (by omega) hA)
      obtain ⟨b, o, rfl, hc⟩ := hA.str hlt
      have c0 := hc k hlt
      have HN := Lib.hid (HT.out k hlt)
      have HO := Lib.hid hown
      have HBE := Lib.hid hbel
      clear hc hA hown hbel
      generalize (idxR ls.length fun j => decide (ls.getD j default = ls.getD k default)) = y at *
      generalize ls.getD k default = s at *
      go_wp2_with fail
      refine HX.out.mono ?_
      rintro e w1 ⟨rfl, rfl⟩
      go_wp2_with (at_builtin; refine wpList_append_own _ rfl _ _ 30 rfl w.heap.size 3 i0 (.int .i64 0) 1 8 Tryz.underlying30 hi hz0 hz1 hz2 rfl (by decide) _ _ _ rfl (HO.out.alloc _) ⟨wr.heap.size, 0, none⟩ 1 1 [.int .i64 y] rfl rfl ?c1 ?c2 ?c3 ?c4 ?c5 ?_)
      case c1 => intro j u hj; match j, hj with | 0, hj => (simp at hj; subst hj; simp [Addr.add])
      case c2 => intro u hu; simp at hu; subst hu; rfl
      case c3 => unfold maxLen; omega
      case c4 => omega
      case c5 => simp; omega
      intro v2 w2 hown2 hgrow2 _
      have HO2 := Lib.hid (show w2.ownsRow w.heap.size 3 1 v2 (k + 1) (ints ((firstOf ls).take (k + 1))) from by
        have hints : ints ((firstOf ls).take (k + 1)) = ints ((firstOf ls).take k) ++ [.int .i64 y] := by rw [HN.out]; simp only [ints, List.map_append, List.map_cons, List.map_nil]
        rw [hints]
        simpa [ints] using hown2)
      have HG2 := Lib.hid ((HBE.out.alloc hsz _).grown hgrow2 (by simp; omega) (fun q hq => (HO.out.lt q hq).1))
      clear hown2 hgrow2
      go_wp2_with fail
      go_roundw
      case rel => exact ⟨k + 1, by omega, by go_num, HO2.out, HG2.out⟩
      case measure => simp [intOf]; omega
    · obtain rfl : k = ls.length := by omega
      rw [HALL.out] at hown
      have HO := Lib.hid hown
      have HBE := Lib.hid hbel
      clear hown hbel
      go_wp2_with fail
      go_ret
      exact ⟨_, rfl, by rw [HLEN.out]; exact HO.out, HBE.out⟩

end Go.Proofs.YtdgnhfhaaghoaaaGreatDoor

namespace Go.Proofs
open Go.Shelf
def Tryz.lays171_ren : Go.Shelf.Ren := ⟨fun | 171 => 175 | 243 => 184 | 246 => 205 | 283 => 215 | 284 => 216 | 285 => 217 | 286 => 218 | 129 => 195 | 317 => 221 | 318 => 222 | 319 => 223 | 320 => 224 | 337 => 225 | 338 => 226 | n => n, fun | 3 => 3 | 9 => 9 | 2 => 2 | 4 => 4 | 171 => 188 | 0 => 0 | 53 => 92 | 37 => 22 | 5 => 5 | 173 => 190 | 212 => 197 | 51 => 172 | 20 => 20 | 213 => 198 | 46 => 157 | 232 => 199 | 233 => 200 | n => n, fun | 17 => 1 | 18 => 2 | 19 => 3 | n => n⟩
theorem Tryz.lays171 : Go.Proofs.Lays.n171 Tryz.prog Tryz.lays171_ren := {
  mixed := by kernel_rfl
  f129 := Tryz.func195.trans (congrArg some (by kernel_rfl))
  f171 := Tryz.func175.trans (congrArg some (by kernel_rfl))
  f243 := Tryz.func184.trans (congrArg some (by kernel_rfl))
  f246 := Tryz.func205.trans (congrArg some (by kernel_rfl))
  f283 := Tryz.func215.trans (congrArg some (by kernel_rfl))
  f284 := Tryz.func216.trans (congrArg some (by kernel_rfl))
  f285 := Tryz.func217.trans (congrArg some (by kernel_rfl))
  f286 := Tryz.func218.trans (congrArg some (by kernel_rfl))
  f317 := Tryz.func221.trans (congrArg some (by kernel_rfl))
  f318 := Tryz.func222.trans (congrArg some (by kernel_rfl))
  f319 := Tryz.func223.trans (congrArg some (by kernel_rfl))
  f320 := Tryz.func224.trans (congrArg some (by kernel_rfl))
  f337 := Tryz.func225.trans (congrArg some (by kernel_rfl))
  f338 := Tryz.func226.trans (congrArg some (by kernel_rfl))
  t0 := Tryz.underlying0
  a0 := Tryz.isAgg0
  z0 := Tryz.sizeOf0
  v0 := Tryz.zeroValue0
  t2 := Tryz.underlying2
  a2 := Tryz.isAgg2
  z2 := Tryz.sizeOf2
  v2 := Tryz.zeroValue2
  t3 := Tryz.underlying3
  a3 := Tryz.isAgg3
  z3 := Tryz.sizeOf3
  v3 := Tryz.zeroValue3
  t4 := Tryz.underlying4
  a4 := Tryz.isAgg4
  z4 := Tryz.sizeOf4
  v4 := Tryz.zeroValue4
  t5 := Tryz.underlying5
  a5 := Tryz.isAgg5
  z5 := Tryz.sizeOf5
  v5 := Tryz.zeroValue5
  t9 := Tryz.underlying9
  a9 := Tryz.isAgg9
  z9 := Tryz.sizeOf9
  v9 := Tryz.zeroValue9
  t20 := Tryz.underlying20
  a20 := Tryz.isAgg20
  z20 := Tryz.sizeOf20
  v20 := Tryz.zeroValue20
  t37 := Tryz.underlying22
  a37 := Tryz.isAgg22
  z37 := Tryz.sizeOf22
  v37 := Tryz.zeroValue22
  t46 := Tryz.underlying157
  a46 := Tryz.isAgg157
  z46 := Tryz.sizeOf157
  v46 := Tryz.zeroValue157
  t51 := Tryz.underlying172
  a51 := Tryz.isAgg172
  z51 := Tryz.sizeOf172
  v51 := Tryz.zeroValue172
  t53 := Tryz.underlying92
  a53 := Tryz.isAgg92
  z53 := Tryz.sizeOf92
  v53 := Tryz.zeroValue92
  t171 := Tryz.underlying188
  a171 := Tryz.isAgg188
  z171 := Tryz.sizeOf188
  v171 := Tryz.zeroValue188
  t173 := Tryz.underlying190
  a173 := Tryz.isAgg190
  z173 := Tryz.sizeOf190
  v173 := Tryz.zeroValue190
  t212 := Tryz.underlying197
  a212 := Tryz.isAgg197
  z212 := Tryz.sizeOf197
  v212 := Tryz.zeroValue197
  t213 := Tryz.underlying198
  a213 := Tryz.isAgg198
  z213 := Tryz.sizeOf198
  t232 := Tryz.underlying199
  a232 := Tryz.isAgg199
  z232 := Tryz.sizeOf199
  v232 := Tryz.zeroValue199
  t233 := Tryz.underlying200
  a233 := Tryz.isAgg200
  z233 := Tryz.sizeOf200
  v233 := Tryz.zeroValue200
  g17 := by kernel_rfl
  g18 := by kernel_rfl
  g19 := by kernel_rfl }
end Go.Proofs

set_option linter.unusedVariables false
namespace Go.Proofs.YtdgnhfhaaghoaaaGreatDoor
open Go.RowKit

theorem dec_digits {m : Nat} (h : m < 100) : Lib.decDigits m = dec2 m := by
  unfold dec2
  split
  · rw [Lib.decDigits, dif_pos (by omega)]
  · rw [Lib.decDigits, dif_neg (by omega), Lib.decDigits, dif_pos (by omega)]
    simp

theorem bytes_app (a b : List UInt8) : bytesOf a ++ bytesOf b = bytesOf (a ++ b) := by
  apply ByteArray.ext
  simp [bytesOf]
theorem bytes_size (a : List UInt8) : (bytesOf a).size = a.length := by simp [bytesOf, ByteArray.size]

set_option maxHeartbeats 400000 in
theorem decS_any (x : Int) (w : World) (h0 : 0 ≤ x) (h1 : x < 100) :
    Calls Tryz.prog 144 #[.int .i64 x] w fun e w' => e = .returned (.string (bytesOf (decT x))) ∧ w = w' := by
  obtain ⟨m, rfl⟩ := Int.eq_ofNat_of_zero_le h0
  have H := Any.strconv_Itoa_small Tryz.lays171 m (by omega) w
  have e : decT (m : Int) = Lib.decDigits m := by
    rw [dec_digits (by omega)]
    unfold decT
    rw [if_pos h0, if_pos h1]
    rfl
  rw [← e] at H
  have H := Lib.hid H
  clear e
  generalize decT (m : Int) = d at *
  go_enter Tryz.func144, Tryz.ntmps144
  go_wp2_with fail
  refine H.out.mono ?_
  rintro e w1 ⟨rfl, rfl⟩
  go_wp2_with fail
  go_ret
  exact ⟨rfl, rfl⟩

set_option maxRecDepth 100000 in
set_option maxHeartbeats 2000000 in
theorem numbered_any (pre : List UInt8) (A : Option Addr) (c : Nat) (xs : List Int) (w : World) (hp : pre.length ≤ 1000000) (hn : xs.length ≤ 1000000) (hx : ∀ x ∈ xs, 0 ≤ x ∧ x < 100) (hA : Cells w A (ints xs)) :
    Calls Tryz.prog 123 #[.string (bytesOf pre), .slice A xs.length c] w fun e w' => e = .returned (.string (bytesOf (pre ++ numsT decT xs))) ∧ w = w' := by
  have HALL := Lib.hid (show pre ++ numsT decT (xs.take xs.length) = pre ++ numsT decT xs from by rw [List.take_length])
  have HT := Lib.hid (fun k (h : k < xs.length) => nums_take h)
  have HL := Lib.hid (fun k => nums_len (l := xs.take k) fun x h => hx x (List.mem_of_mem_take h))
  have HX := Lib.hid hx
  clear hx
  go_enter Tryz.func123, Tryz.ntmps123
  go_wp2_with fail
  go_loop [0, 9] (fun s i => ∃ k : Nat, k ≤ xs.length ∧ i = .int .i64 k ∧ s = .string (bytesOf (pre ++ numsT decT (xs.take k)))) (fun _ i => xs.length - (intOf i).toNat)
  case atStart => exact ⟨0, Nat.zero_le _, rfl, by simp [numsT]⟩
  case round =>
    obtain ⟨k, hk, rfl, rfl⟩ := hrel
    by_cases hlt : k < xs.length
    · obtain ⟨b, o, rfl, hc⟩ := hA.int hlt
      have c0 := hc k hlt
      have hm : xs.getD k 0 ∈ xs := by
        have e : xs.getD k 0 = xs[k] := by simp [List.getD, hlt]
        rw [e]; exact List.getElem_mem _
      obtain ⟨x0, x1⟩ := HX.out _ hm
      have hd := dec_len x0 x1
      have HN := Lib.hid (HT.out k hlt)
      have hl := HL.out k
      have hs1 : (bytesOf (pre ++ numsT decT (xs.take k))).size ≤ 8000000 := by
        rw [bytes_size, List.length_append]
        rw [List.length_take] at hl
        omega
      have hs2 : (bytesOf (decT (xs.getD k 0))).size ≤ 2 := by rw [bytes_size]; exact hd
      clear hc hA hm hl hd
      generalize hy : xs.getD k 0 = y at *
      have HY := Lib.hid hy
      clear hy
      have HAPP := Lib.hid (show bytesOf (pre ++ numsT decT (xs.take k)) ++ ((⟨#[32]⟩ : ByteArray) ++ bytesOf (decT y)) = bytesOf (pre ++ numsT decT (xs.take (k + 1))) from by
        rw [HN.out, show (⟨#[32]⟩ : ByteArray) = bytesOf [32] from rfl, bytes_app, bytes_app, List.append_assoc]; rfl)
      go_wp2_with ((with_reducible refine (decS_any y _ x0 x1).mono ?_); rintro e w' ⟨rfl, rfl⟩)
      go_round
      case rel => exact ⟨k + 1, by omega, by go_num, by rw [HAPP.out]⟩
      case measure => simp [intOf]; omega
    · obtain rfl : k = xs.length := by omega
      go_wp2_with fail
      go_ret
      exact ⟨rfl, rfl⟩

end Go.Proofs.YtdgnhfhaaghoaaaGreatDoor

set_option linter.unusedVariables false
namespace Go.Proofs.YtdgnhfhaaghoaaaGreatDoor
open Go.RowKit

def stepIn (n mid : Int) (t : I3) : Bool := inB t.1 0 (n - 1) && (inB t.2.1 0 (mid - 1) && inB t.2.2 0 (n - 1))
def stepAt (n mid : Int) (l : List I3) (k : Nat) : Bool := stepIn n mid (l.getD k (0, 0, 0)) && (k == 0 || lt3 (l.getD (k - 1) (0, 0, 0)) (l.getD k (0, 0, 0)))
def goodSteps (n mid : Int) (l : List I3) : Bool := allR l.length (stepAt n mid l)

theorem RA3.at' {w : World} {A : Option Addr} {c : Nat} {l : List I3} (h : RA3 w (.slice A l.length c) l) {k : Nat} (hk : k < l.length) :
    ∃ b o, A = some ⟨b, o, none⟩ ∧ ∀ j, j < l.length → w.cell? ⟨b, o + j * 3, none⟩ = some (.int .i64 (l.getD j (0, 0, 0)).1) ∧ w.cell? ⟨b, o + j * 3 + 1, none⟩ = some (.int .i64 (l.getD j (0, 0, 0)).2.1) ∧ w.cell? ⟨b, o + j * 3 + 2, none⟩ = some (.int .i64 (l.getD j (0, 0, 0)).2.2) := by
  obtain ⟨b, o, c', e, _⟩ := h.at_ (List.getElem?_eq_getElem hk)
  cases e
  refine ⟨b, o, rfl, fun j hj => ?_⟩
  obtain ⟨b', o', c', e, h0, h1, h2⟩ := h.at_ (List.getElem?_eq_getElem hj)
  cases e
  have : l.getD j (0, 0, 0) = l[j] := by simp [List.getD, hj]
  rw [this]
  exact ⟨h0, h1, h2⟩

set_option maxRecDepth 100000 in
set_option maxHeartbeats 4000000 in
theorem areSteps_any (v : Value) (l : List I3) (n mid : Int) (w : World) (hn : l.length ≤ 16777216) (hn0 : 0 ≤ n) (hn1 : n ≤ 16777216) (hm0 : 0 ≤ mid) (hm1 : mid ≤ 1048576) (hv : RA3 w v l) :
    Calls Tryz.prog 119 #[v, .int .i64 n, .int .i64 mid] w fun e w' => e = .returned (.bool (goodSteps n mid l)) ∧ Below w.heap.size w w' := by
  have hv' := hv
  obtain ⟨A, c, rfl, _, _⟩ := hv
  have hv'' : ∀ wr, Below w.heap.size w wr → RA3 wr (.slice A l.length c) l := fun wr hb => hv'.below hb
  have HV := Lib.hid hv''
  clear hv' hv''
  go_enter Tryz.func119, Tryz.ntmps119
  go_wp2_with fail
  go_loopw [11] (fun i wr => ∃ k : Nat, k ≤ l.length ∧ i = .int .i64 k ∧ (∀ j, j < k → stepAt n mid l j = true) ∧ Below w.heap.size w wr)
    (fun i _ => l.length - (intOf i).toNat)
  case atStart => exact ⟨0, Nat.zero_le _, rfl, fun j hj => by omega, Below.refl _ _⟩
  case round =>
    obtain ⟨k, hk, rfl, hall, hbel⟩ := hrel
    have HALL := Lib.hid hall
    clear hall
    by_cases hlt : k < l.length
    · obtain ⟨b, o, rfl, hc⟩ := (HV.out wr hbel).at' hlt
      obtain ⟨hk0, hk1, hk2⟩ := hc k hlt
      have HR : Hid (stepAt n mid l k = (stepIn n mid (l.getD k (0, 0, 0)) && (k == 0 || lt3 (l.getD (k - 1) (0, 0, 0)) (l.getD k (0, 0, 0))))) := rfl
      have HF : Hid (stepAt n mid l k = false → goodSteps n mid l = false) := fun h => allR_false hlt h
      have HN : Hid (stepAt n mid l k = true → ∀ j, j < k + 1 → stepAt n mid l j = true) := fun h => all_next HALL.out h
      have HB := Lib.hid hbel
      have b0 : (0 : Int) ≤ (k : Int) := by omega
      have b1 : (k : Int) < (l.length : Int) := by omega
      have HC := Lib.hid hc
      clear hbel hc
      generalize hx : l.getD k (0, 0, 0) = x at *
      have HX := Lib.hid hx
      clear hx
      have HQ := Lib.hid within_q
      cases h0 : inB x.1 0 (n - 1)
      · have HS := Lib.hid (HF.out (by rw [HR.out]; simp [stepIn, h0]))
        go_wp2_with fail
        go_quiet ((go_at_call 75; exact Calls.quiet_of_same (HQ.out _ _ _ _)))
        go_wp2
        go_ret
        exact ⟨by rw [HS.out]; rfl, below_drewN' (HB.out.alloc HB.out.size _) _⟩
      · cases h1 : inB x.2.1 0 (mid - 1)
        · have HS := Lib.hid (HF.out (by rw [HR.out]; simp [stepIn, h0, h1]))
          go_wp2_with fail
          go_quiet ((go_at_call 75; exact Calls.quiet_of_same (HQ.out _ _ _ _)))
          go_wp2
          go_ret
          exact ⟨by rw [HS.out]; rfl, below_drewN' (HB.out.alloc HB.out.size _) _⟩
        · cases h2 : inB x.2.2 0 (n - 1)
          · have HS := Lib.hid (HF.out (by rw [HR.out]; simp [stepIn, h0, h1, h2]))
            go_wp2_with fail
            go_quiet ((go_at_call 75; exact Calls.quiet_of_same (HQ.out _ _ _ _)))
            go_wp2
            go_ret
            exact ⟨by rw [HS.out]; rfl, below_drewN' (HB.out.alloc HB.out.size _) _⟩
          · have hin : stepIn n mid x = true := by simp [stepIn, h0, h1, h2]
            cases k with
            | zero =>
              have HT := Lib.hid (HN.out (by rw [HR.out, hin]; rfl))
              clear hin
              rw [Nat.zero_mul] at hk0 hk1 hk2
              simp only [Nat.add_zero] at hk0 hk1 hk2
              go_wp2_with fail
              go_quiet ((go_at_call 75; exact Calls.quiet_of_same (HQ.out _ _ _ _)))
              go_wp2
              go_roundw
              case rel => exact ⟨0 + 1, by omega, by go_num, HT.out, below_drewN' (HB.out.alloc HB.out.size _) _⟩
              case measure => simp [intOf]; omega
            | succ m =>
              obtain ⟨hm0', hm1', hm2'⟩ := HC.out m (by omega)
              have hr : stepAt n mid l (m + 1) = lt3 (l.getD m (0, 0, 0)) x := by rw [HR.out, hin]; simp
              clear hin
              generalize l.getD m (0, 0, 0) = y at *
              cases hlt3 : lt3 y x
              · have HS := Lib.hid (HF.out (by rw [hr, hlt3]))
                have hge : decide (0 ≤ cmp3 y x) = true := by
                  have : decide (cmp3 y x < 0) = false := hlt3
                  simpa using this
                clear hr hlt3
                go_wp2_with fail
                have q0 : (wr.alloc (Obj.cells #[.int .i64 x.1, .int .i64 x.2.1, .int .i64 x.2.2] 103)).cell? ⟨wr.heap.size, 0, none⟩ = some (.int .i64 x.1) := by simp
                have q1 : (wr.alloc (Obj.cells #[.int .i64 x.1, .int .i64 x.2.1, .int .i64 x.2.2] 103)).cell? ⟨wr.heap.size, 1, none⟩ = some (.int .i64 x.2.1) := by simp
                have q2 : (wr.alloc (Obj.cells #[.int .i64 x.1, .int .i64 x.2.1, .int .i64 x.2.2] 103)).cell? ⟨wr.heap.size, 2, none⟩ = some (.int .i64 x.2.2) := by simp
                have hal := HB.out.alloc HB.out.size (Obj.cells #[.int .i64 x.1, .int .i64 x.2.1, .int .i64 x.2.2] 103)
                have p0 := cell_below ((Below.refl wr.heap.size wr).alloc (Nat.le_refl _) (Obj.cells #[.int .i64 x.1, .int .i64 x.2.1, .int .i64 x.2.2] 103)) hm0' (lt_of_cell hm0')
                have p1 := cell_below ((Below.refl wr.heap.size wr).alloc (Nat.le_refl _) (Obj.cells #[.int .i64 x.1, .int .i64 x.2.1, .int .i64 x.2.2] 103)) hm1' (lt_of_cell hm1')
                have p2 := cell_below ((Below.refl wr.heap.size wr).alloc (Nat.le_refl _) (Obj.cells #[.int .i64 x.1, .int .i64 x.2.1, .int .i64 x.2.2] 103)) hm2' (lt_of_cell hm2')
                generalize wr.alloc (Obj.cells #[.int .i64 x.1, .int .i64 x.2.1, .int .i64 x.2.2] 103) = w2 at *
                have H3 := Lib.hid (compareSteps_any y x w2.drew)
                have HA := Lib.hid hal
                clear hk0 hk1 hk2 hm0' hm1' hm2' hal
                have e1 : IntKind.i64.wrap (n - 1) = n - 1 := IntWalk.i64_in _ (by omega)
                have e2 : IntKind.i64.wrap (mid - 1) = mid - 1 := IntWalk.i64_in _ (by omega)
                have e3 : IntKind.i64.wrap (m : Int) = (m : Int) := IntWalk.i64_in _ (by omega)
                have e4 : (m : Int) < (l.length : Int) := by omega
                have e5 : (0 : Int) ≤ (m : Int) := by omega
                have e6 : (0 : Int) < (m : Int) + 1 := by omega
                refine wp_region_still_tail 32 (by kernel_rfl) (by kernel_rfl) ?_
                simp only [List.take_succ_cons, List.take_zero, List.drop_succ_cons, List.drop_zero]
                repeat (first | still_step | still_call (HQ.out _ _ _ _))
                refine wpStill_nil ?_
                clear e1 e2 e3
                change wpList _ _ _ _ _ w2.drew
                go_wp2_with ((with_reducible refine H3.out.mono ?_); rintro e w1 ⟨rfl, hb1⟩)
                go_ret
                exact ⟨by rw [HS.out]; rfl, HA.out.drew.trans (hb1.mono HA.out.drew.size)⟩
              · have HT := Lib.hid (HN.out (by rw [hr, hlt3]))
                have hge : decide (0 ≤ cmp3 y x) = false := by
                  have : decide (cmp3 y x < 0) = true := hlt3
                  simpa using this
                clear hr hlt3
                go_wp2_with fail
                have q0 : (wr.alloc (Obj.cells #[.int .i64 x.1, .int .i64 x.2.1, .int .i64 x.2.2] 103)).cell? ⟨wr.heap.size, 0, none⟩ = some (.int .i64 x.1) := by simp
                have q1 : (wr.alloc (Obj.cells #[.int .i64 x.1, .int .i64 x.2.1, .int .i64 x.2.2] 103)).cell? ⟨wr.heap.size, 1, none⟩ = some (.int .i64 x.2.1) := by simp
                have q2 : (wr.alloc (Obj.cells #[.int .i64 x.1, .int .i64 x.2.1, .int .i64 x.2.2] 103)).cell? ⟨wr.heap.size, 2, none⟩ = some (.int .i64 x.2.2) := by simp
                have hal := HB.out.alloc HB.out.size (Obj.cells #[.int .i64 x.1, .int .i64 x.2.1, .int .i64 x.2.2] 103)
                have p0 := cell_below ((Below.refl wr.heap.size wr).alloc (Nat.le_refl _) (Obj.cells #[.int .i64 x.1, .int .i64 x.2.1, .int .i64 x.2.2] 103)) hm0' (lt_of_cell hm0')
                have p1 := cell_below ((Below.refl wr.heap.size wr).alloc (Nat.le_refl _) (Obj.cells #[.int .i64 x.1, .int .i64 x.2.1, .int .i64 x.2.2] 103)) hm1' (lt_of_cell hm1')
                have p2 := cell_below ((Below.refl wr.heap.size wr).alloc (Nat.le_refl _) (Obj.cells #[.int .i64 x.1, .int .i64 x.2.1, .int .i64 x.2.2] 103)) hm2' (lt_of_cell hm2')
                generalize wr.alloc (Obj.cells #[.int .i64 x.1, .int .i64 x.2.1, .int .i64 x.2.2] 103) = w2 at *
                have H3 := Lib.hid (compareSteps_any y x w2.drew)
                have HA := Lib.hid hal
                clear hk0 hk1 hk2 hm0' hm1' hm2' hal
                have e1 : IntKind.i64.wrap (n - 1) = n - 1 := IntWalk.i64_in _ (by omega)
                have e2 : IntKind.i64.wrap (mid - 1) = mid - 1 := IntWalk.i64_in _ (by omega)
                have e3 : IntKind.i64.wrap (m : Int) = (m : Int) := IntWalk.i64_in _ (by omega)
                have e4 : (m : Int) < (l.length : Int) := by omega
                have e5 : (0 : Int) ≤ (m : Int) := by omega
                have e6 : (0 : Int) < (m : Int) + 1 := by omega
                refine wp_region_still_tail 32 (by kernel_rfl) (by kernel_rfl) ?_
                simp only [List.take_succ_cons, List.take_zero, List.drop_succ_cons, List.drop_zero]
                repeat (first | still_step | still_call (HQ.out _ _ _ _))
                refine wpStill_nil ?_
                clear e1 e2 e3
                change wpList _ _ _ _ _ w2.drew
                go_wp2_with ((with_reducible refine H3.out.mono ?_); rintro e w1 ⟨rfl, hb1⟩)
                go_roundw
                case rel => exact ⟨m + 1 + 1, by omega, by go_num, HT.out, HA.out.drew.trans (hb1.mono HA.out.drew.size)⟩
                case measure => simp [intOf]; omega
    · obtain rfl : k = l.length := by omega
      have HE := Lib.hid (allR_true HALL.out)
      go_wp2
      go_ret
      exact ⟨by unfold goodSteps; rw [HE.out]; rfl, hbel⟩

end Go.Proofs.YtdgnhfhaaghoaaaGreatDoor
