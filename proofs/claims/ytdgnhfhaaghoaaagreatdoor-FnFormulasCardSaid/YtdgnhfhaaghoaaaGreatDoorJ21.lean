/- The reference: grouping, the rounds, the last one: walked. Slices of strings read; the first that is equal; for each text the first that is equal to it: the program walked. DERIVED: THE SHELF's CONTRACTS AT THIS DUMP, IN PLAIN WORDS (tools/lay-plain.mjs out of 'YtdgnhfhaaghoaaaGreatDoorShelfIA.lean', which tools/lay-shelf.mjs wrote): THE SAME DECLARATIONS UNDER THE SAME NAMES: 'import', 'namespace', 'open', 'def', 'theorem' AND NOTHING ELSE: no command of the shelf's: FOR A HAND-IN. Each laying: the table of numbers ('.._ren') and one theorem, a field a fact of the dump's own or the kernel's comparison; each contract: ONE APPLICATION. Numbers written behind a word: the program walked. -/
import Derived.Test.YtdgnhfhaaghoaaaGreatDoorProg
import Derived.Test.YtdgnhfhaaghoaaaGreatDoorJ15
import Derived.Test.YtdgnhfhaaghoaaaGreatDoorJ8
import Derived.Lib.QuietBelow
import Derived.Test.YtdgnhfhaaghoaaaGreatDoorJ3
import Derived.Test.YtdgnhfhaaghoaaaGreatDoorJ12
import Derived.Ground.NamesProg
import Derived.Shelf.Strconv.Itoa3
import Derived.Test.YtdgnhfhaaghoaaaGreatDoorJ0
set_option linter.unusedSimpArgs false
set_option linter.unusedVariables false
namespace Go.Proofs.YtdgnhfhaaghoaaaGreatDoor
open Go.RowKit Go.Sort

theorem owns_someR {w : World} {B : Nat} {e : TypeId} {s : Nat} {v : Value} {n : Nat} {xs : List Value} (h : w.ownsRow B e s v n xs) (hn : 0 < n) : ∃ b, v.ownBlock = some b := by
  rcases h.2 with ⟨_, e⟩ | ⟨g, c, cur, rfl, _⟩
  · omega
  · exact ⟨g, rfl⟩
/-- Rows read, in all worlds that come after. -/
theorem rss_rows {w : World} {A : Option Addr} {c : Nat} {xss : List (List Int)} {X : Nat → List Int} (h : RSS w (.slice A xss.length c) xss) (hX : ∀ j, X j = xss.getD j default) (h0 : 0 < xss.length) :
    ∃ b o, A = some ⟨b, o, none⟩ ∧ ∀ j, j < xss.length → ∃ Aj aj, ∀ W, Below w.heap.size w W → W.cell? ⟨b, o + j, none⟩ = some (.slice Aj (X j).length aj) ∧ Cells W Aj (ints (X j)) := by
  obtain ⟨A', c', vs, e, hm, hl, hcs, hr⟩ := h
  cases e
  obtain ⟨b, o, rfl, hc⟩ := hcs.at_ (k := 0) (by omega)
  refine ⟨b, o, rfl, fun j hj => ?_⟩
  obtain ⟨Aj, aj, e, _, hA⟩ := hr j _ _ (List.getElem?_eq_getElem (by omega)) (List.getElem?_eq_getElem hj)
  have hx : X j = xss[j] := by rw [hX]; simp [List.getD, hj]
  have h1 := hc j _ (List.getElem?_eq_getElem (by omega))
  rw [e] at h1
  exact ⟨Aj, aj, fun W hW => ⟨by rw [hx]; exact cell_below hW h1 (lt_of_cell h1), by rw [hx]; exact hA.below hW⟩⟩

theorem TRN.wider {w : World} {B B' : Nat} {u : Value} {l : List (List Int)} (h : TRN w B u l) (hB : B' ≤ B) : TRN w B' u l := by
  obtain ⟨vs, h1, h2, h3, h4⟩ := h
  exact ⟨vs, owns_mono h1 hB, fun i v xs a b => owns_mono (h2 i v xs a b) hB, h3, h4⟩
def Differ (l : Lab) (m : Nat) : Prop := ∀ j, j < m → partsL l (j + 1) ≠ partsL l j
def lenS : Value → Nat
  | .slice _ n _ => n
  | _ => 0
end Go.Proofs.YtdgnhfhaaghoaaaGreatDoor

set_option linter.unusedVariables false
namespace Go.Proofs.YtdgnhfhaaghoaaaGreatDoor
open Go.RowKit

abbrev strs (ls : List ByteArray) : List Value := ls.map Value.string
theorem getElem?_strs (ls : List ByteArray) (j : Nat) (h : j < ls.length) : (strs ls)[j]? = some (.string (ls.getD j default)) := by
  simp [strs, List.getD, h]
theorem Cells.str {w : World} {A : Option Addr} {ls : List ByteArray} (h : Cells w A (strs ls)) {k : Nat} (hk : k < ls.length) :
    ∃ b o, A = some ⟨b, o, none⟩ ∧ ∀ j, j < ls.length → w.cell? ⟨b, o + j, none⟩ = some (.string (ls.getD j default)) := by
  obtain ⟨b, o, e, hc⟩ := h.at_ (k := k) (by simpa [strs] using hk)
  exact ⟨b, o, e, fun j hj => hc j _ (getElem?_strs ls j hj)⟩

set_option maxHeartbeats 1000000 in
theorem indexS_any (A : Option Addr) (c : Nat) (ls : List ByteArray) (x : ByteArray) (w : World) (hn : ls.length ≤ 16777216) (hA : Cells w A (strs ls)) :
    Calls Tryz.prog 172 #[.slice A ls.length c, .string x] w fun e w' => e = .returned (.int .i64 (idxR ls.length fun k => decide (ls.getD k default = x))) ∧ w = w' := by
  obtain ⟨p, hp⟩ : ∃ p : Nat → Bool, p = fun k => decide (ls.getD k default = x) := ⟨_, rfl⟩
  rw [← hp]
  have HP := Lib.hid (fun k => show p k = decide (ls.getD k default = x) from by rw [hp])
  clear hp
  go_enter Tryz.func172, Tryz.ntmps172
  go_wp2
  go_loop [8] (fun i => ∃ k : Nat, k ≤ ls.length ∧ i = .int .i64 k ∧ NoB p k) (fun i => ls.length - (intOf i).toNat)
  case atStart => exact ⟨0, Nat.zero_le _, rfl, fun j hj => by omega⟩
  case round =>
    obtain ⟨k, hk, rfl, hall⟩ := hrel
    have HALL := Lib.hid hall
    clear hall
    by_cases hlt : k < ls.length
    · obtain ⟨b, o, rfl, hc⟩ := hA.str hlt
      have c0 := hc k hlt
      by_cases he : ls.getD k default = x
      · have HY := Lib.hid (idxR_some hlt HALL.out (by rw [HP.out]; simpa using he))
        have hee := str_eq x
        rw [he] at c0
        clear hc hA he
        go_wp2_with fail
        go_ret
        exact ⟨by rw [HY.out]; rfl, rfl⟩
      · have HN := Lib.hid (show NoB p (k + 1) from none_next HALL.out (by rw [HP.out]; simpa using he))
        have hee := str_ne (fun h => he h.symm)
        clear hc hA he
        generalize ls.getD k default = y at *
        go_wp2_with fail
        go_round
        case rel => exact ⟨k + 1, by omega, by go_num, HN.out⟩
        case measure => simp [intOf]; omega
    · obtain rfl : k = ls.length := by omega
      have HF := Lib.hid (idxR_none HALL.out)
      go_wp2_with fail
      go_ret
      exact ⟨by rw [HF.out]; rfl, rfl⟩

set_option maxRecDepth 100000 in
set_option maxHeartbeats 4000000 in
theorem least_any (A : Option Addr) (c : Nat) (ls : List ByteArray) (w : World) (hn : ls.length ≤ 1000000) (hA : Cells w A (strs ls)) :
    Calls Tryz.prog 124 #[.slice A ls.length c] w fun e w' => ∃ r, e = .returned r ∧ w'.ownsRow w.heap.size 3 1 r (firstOf ls).length (ints (firstOf ls)) ∧ Below w.heap.size w w' := by
  obtain ⟨i0, hi, hz0, hz1, hz2⟩ := info_parts info_ci
  have HA := Lib.hid (show ∀ W, Below w.heap.size w W → Cells W A (strs ls) from fun W hb => hA.below hb)
  have hlen := first_len ls
  have HALL := Lib.hid (show (firstOf ls).take ls.length = firstOf ls from List.take_of_length_le (by omega))
  have HT := Lib.hid (fun k (h : k < ls.length) => first_take h)
  have hown0 := World.ownsRow_made (e := 3) (size := 1) w #[] 0 (Nat.le_refl _) (Nat.zero_le _) rfl
  have HOWN := Lib.hid hown0
  have HB0 := Lib.hid ((Below.refl w.heap.size w).alloc (Nat.le_refl _) (.cells #[] 3))
  have HLEN := Lib.hid hlen
  clear hA hown0 hlen
  go_enter Tryz.func124, Tryz.ntmps124
  go_wp2_with fail
  go_loopw [3, 9] (fun u i wr => ∃ k : Nat, k ≤ ls.length ∧ i = .int .i64 k ∧ wr.ownsRow w.heap.size 3 1 u k (ints ((firstOf ls).take k)) ∧ Below w.heap.size w wr)
    (fun _ i _ => ls.length - (intOf i).toNat)
  case atStart => exact ⟨0, Nat.zero_le _, rfl, HOWN.out, HB0.out⟩
  case round =>
    clear HOWN HB0
    obtain ⟨k, hk, rfl, hown, hbel⟩ := hrel
    obtain ⟨AO, cO, rfl, hown⟩ := owns_form hown
    have hsz := hbel.size
    by_cases hlt : k < ls.length
    · have hA := HA.out wr hbel
      have HX := Lib.hid (indexS_any A c ls (ls.getD k default) wr (by omega) hA)
      obtain ⟨b, o, rfl, hc⟩ := hA.str hlt
      have c0 := hc k hlt
      have HN := Lib.hid (HT.out k hlt)
      have HO := Lib.hid hown
      have HBE := Lib.hid hbel
      clear hc hA hown hbel
      generalize (idxR ls.length fun j => decide (ls.getD j default = ls.getD k default)) = y at *
      generalize ls.getD k default = s at *
      go_wp2_with fail
      refine HX.out.mono ?_
      rintro e w1 ⟨rfl, rfl⟩
      go_wp2_with (at_builtin; refine wpList_append_own _ rfl _ _ 30 rfl w.heap.size 3 i0 (.int .i64 0) 1 8 Tryz.underlying30 hi hz0 hz1 hz2 rfl (by decide) _ _ _ rfl (HO.out.alloc _) ⟨wr.heap.size, 0, none⟩ 1 1 [.int .i64 y] rfl rfl ?c1 ?c2 ?c3 ?c4 ?c5 ?_)
      case c1 => intro j u hj; match j, hj with | 0, hj => (simp at hj; subst hj; simp [Addr.add])
      case c2 => intro u hu; simp at hu; subst hu; rfl
      case c3 => unfold maxLen; omega
      case c4 => omega
      case c5 => simp; omega
      intro v2 w2 hown2 hgrow2 _
      have HO2 := Lib.hid (show w2.ownsRow w.heap.size 3 1 v2 (k + 1) (ints ((firstOf ls).take (k + 1))) from by
        have hints : ints ((firstOf ls).take (k + 1)) = ints ((firstOf ls).take k) ++ [.int .i64 y] := by rw [HN.out]; simp only [ints, List.map_append, List.map_cons, List.map_nil]
        rw [hints]
        simpa [ints] using hown2)
      have HG2 := Lib.hid ((HBE.out.alloc hsz _).grown hgrow2 (by simp; omega) (fun q hq => (HO.out.lt q hq).1))
      clear hown2 hgrow2
      go_wp2_with fail
      go_roundw
      case rel => exact ⟨k + 1, by omega, by go_num, HO2.out, HG2.out⟩
      case measure => simp [intOf]; omega
    · obtain rfl : k = ls.length := by omega
      rw [HALL.out] at hown
      have HO := Lib.hid hown
      have HBE := Lib.hid hbel
      clear hown hbel
      go_wp2_with fail
      go_ret
      exact ⟨_, rfl, by rw [HLEN.out]; exact HO.out, HBE.out⟩

end Go.Proofs.YtdgnhfhaaghoaaaGreatDoor

namespace Go.Proofs
open Go.Shelf
def Tryz.lays171_ren : Go.Shelf.Ren := ⟨fun | 171 => 175 | 243 => 184 | 246 => 205 | 283 => 215 | 284 => 216 | 285 => 217 | 286 => 218 | 129 => 195 | 317 => 221 | 318 => 222 | 319 => 223 | 320 => 224 | 337 => 225 | 338 => 226 | n => n, fun | 3 => 3 | 9 => 9 | 2 => 2 | 4 => 4 | 171 => 188 | 0 => 0 | 53 => 92 | 37 => 22 | 5 => 5 | 173 => 190 | 212 => 197 | 51 => 172 | 20 => 20 | 213 => 198 | 46 => 157 | 232 => 199 | 233 => 200 | n => n, fun | 17 => 1 | 18 => 2 | 19 => 3 | n => n⟩
theorem Tryz.lays171 : Go.Proofs.Lays.n171 Tryz.prog Tryz.lays171_ren := {
  mixed := by kernel_rfl
  f129 := Tryz.func195.trans (congrArg some (by kernel_rfl))
  f171 := Tryz.func175.trans (congrArg some (by kernel_rfl))
  f243 := Tryz.func184.trans (congrArg some (by kernel_rfl))
  f246 := Tryz.func205.trans (congrArg some (by kernel_rfl))
  f283 := Tryz.func215.trans (congrArg some (by kernel_rfl))
  f284 := Tryz.func216.trans (congrArg some (by kernel_rfl))
  f285 := Tryz.func217.trans (congrArg some (by kernel_rfl))
  f286 := Tryz.func218.trans (congrArg some (by kernel_rfl))
  f317 := Tryz.func221.trans (congrArg some (by kernel_rfl))
  f318 := Tryz.func222.trans (congrArg some (by kernel_rfl))
  f319 := Tryz.func223.trans (congrArg some (by kernel_rfl))
  f320 := Tryz.func224.trans (congrArg some (by kernel_rfl))
  f337 := Tryz.func225.trans (congrArg some (by kernel_rfl))
  f338 := Tryz.func226.trans (congrArg some (by kernel_rfl))
  t0 := Tryz.underlying0
  a0 := Tryz.isAgg0
  z0 := Tryz.sizeOf0
  v0 := Tryz.zeroValue0
  t2 := Tryz.underlying2
  a2 := Tryz.isAgg2
  z2 := Tryz.sizeOf2
  v2 := Tryz.zeroValue2
  t3 := Tryz.underlying3
  a3 := Tryz.isAgg3
  z3 := Tryz.sizeOf3
  v3 := Tryz.zeroValue3
  t4 := Tryz.underlying4
  a4 := Tryz.isAgg4
  z4 := Tryz.sizeOf4
  v4 := Tryz.zeroValue4
  t5 := Tryz.underlying5
  a5 := Tryz.isAgg5
  z5 := Tryz.sizeOf5
  v5 := Tryz.zeroValue5
  t9 := Tryz.underlying9
  a9 := Tryz.isAgg9
  z9 := Tryz.sizeOf9
  v9 := Tryz.zeroValue9
  t20 := Tryz.underlying20
  a20 := Tryz.isAgg20
  z20 := Tryz.sizeOf20
  v20 := Tryz.zeroValue20
  t37 := Tryz.underlying22
  a37 := Tryz.isAgg22
  z37 := Tryz.sizeOf22
  v37 := Tryz.zeroValue22
  t46 := Tryz.underlying157
  a46 := Tryz.isAgg157
  z46 := Tryz.sizeOf157
  v46 := Tryz.zeroValue157
  t51 := Tryz.underlying172
  a51 := Tryz.isAgg172
  z51 := Tryz.sizeOf172
  v51 := Tryz.zeroValue172
  t53 := Tryz.underlying92
  a53 := Tryz.isAgg92
  z53 := Tryz.sizeOf92
  v53 := Tryz.zeroValue92
  t171 := Tryz.underlying188
  a171 := Tryz.isAgg188
  z171 := Tryz.sizeOf188
  v171 := Tryz.zeroValue188
  t173 := Tryz.underlying190
  a173 := Tryz.isAgg190
  z173 := Tryz.sizeOf190
  v173 := Tryz.zeroValue190
  t212 := Tryz.underlying197
  a212 := Tryz.isAgg197
  z212 := Tryz.sizeOf197
  v212 := Tryz.zeroValue197
  t213 := Tryz.underlying198
  a213 := Tryz.isAgg198
  z213 := Tryz.sizeOf198
  t232 := Tryz.underlying199
  a232 := Tryz.isAgg199
  z232 := Tryz.sizeOf199
  v232 := Tryz.zeroValue199
  t233 := Tryz.underlying200
  a233 := Tryz.isAgg200
  z233 := Tryz.sizeOf200
  v233 := Tryz.zeroValue200
  g17 := by kernel_rfl
  g18 := by kernel_rfl
  g19 := by kernel_rfl }
end Go.Proofs

set_option linter.unusedVariables false
namespace Go.Proofs.YtdgnhfhaaghoaaaGreatDoor
open Go.RowKit

theorem dec_digits {m : Nat} (h : m < 100) : Lib.decDigits m = dec2 m := by
  unfold dec2
  split
  · rw [Lib.decDigits, dif_pos (by omega)]
  · rw [Lib.decDigits, dif_neg (by omega), Lib.decDigits, dif_pos (by omega)]
    simp

theorem bytes_app (a b : List UInt8) : bytesOf a ++ bytesOf b = bytesOf (a ++ b) := by
  apply ByteArray.ext
  simp [bytesOf]
theorem bytes_size (a : List UInt8) : (bytesOf a).size = a.length := by simp [bytesOf, ByteArray.size]

set_option maxHeartbeats 400000 in
theorem decS_any (x : Int) (w : World) (h0 : 0 ≤ x) (h1 : x < 100) :
    Calls Tryz.prog 144 #[.int .i64 x] w fun e w' => e = .returned (.string (bytesOf (decT x))) ∧ w = w' := by
  obtain ⟨m, rfl⟩ := Int.eq_ofNat_of_zero_le h0
  have H := Any.strconv_Itoa_small Tryz.lays171 m (by omega) w
  have e : decT (m : Int) = Lib.decDigits m := by
    rw [dec_digits (by omega)]
    unfold decT
    rw [if_pos h0, if_pos h1]
    rfl
  rw [← e] at H
  have H := Lib.hid H
  clear e
  generalize decT (m : Int) = d at *
  go_enter Tryz.func144, Tryz.ntmps144
  go_wp2_with fail
  refine H.out.mono ?_
  rintro e w1 ⟨rfl, rfl⟩
  go_wp2_with fail
  go_ret
  exact ⟨rfl, rfl⟩

set_option maxRecDepth 100000 in
set_option maxHeartbeats 2000000 in
theorem numbered_any (pre : List UInt8) (A : Option Addr) (c : Nat) (xs : List Int) (w : World) (hp : pre.length ≤ 1000000) (hn : xs.length ≤ 1000000) (hx : ∀ x ∈ xs, 0 ≤ x ∧ x < 100) (hA : Cells w A (ints xs)) :
    Calls Tryz.prog 123 #[.string (bytesOf pre), .slice A xs.length c] w fun e w' => e = .returned (.string (bytesOf (pre ++ numsT decT xs))) ∧ w = w' := by
  have HALL := Lib.hid (show pre ++ numsT decT (xs.take xs.length) = pre ++ numsT decT xs from by rw [List.take_length])
  have HT := Lib.hid (fun k (h : k < xs.length) => nums_take h)
  have HL := Lib.hid (fun k => nums_len (l := xs.take k) fun x h => hx x (List.mem_of_mem_take h))
  have HX := Lib.hid hx
  clear hx
  go_enter Tryz.func123, Tryz.ntmps123
  go_wp2_with fail
  go_loop [0, 9] (fun s i => ∃ k : Nat, k ≤ xs.length ∧ i = .int .i64 k ∧ s = .string (bytesOf (pre ++ numsT decT (xs.take k)))) (fun _ i => xs.length - (intOf i).toNat)
  case atStart => exact ⟨0, Nat.zero_le _, rfl, by simp [numsT]⟩
  case round =>
    obtain ⟨k, hk, rfl, rfl⟩ := hrel
    by_cases hlt : k < xs.length
    · obtain ⟨b, o, rfl, hc⟩ := hA.int hlt
      have c0 := hc k hlt
      have hm : xs.getD k 0 ∈ xs := by
        have e : xs.getD k 0 = xs[k] := by simp [List.getD, hlt]
        rw [e]; exact List.getElem_mem _
      obtain ⟨x0, x1⟩ := HX.out _ hm
      have hd := dec_len x0 x1
      have HN := Lib.hid (HT.out k hlt)
      have hl := HL.out k
      have hs1 : (bytesOf (pre ++ numsT decT (xs.take k))).size ≤ 8000000 := by
        rw [bytes_size, List.length_append]
        rw [List.length_take] at hl
        omega
      have hs2 : (bytesOf (decT (xs.getD k 0))).size ≤ 2 := by rw [bytes_size]; exact hd
      clear hc hA hm hl hd
      generalize hy : xs.getD k 0 = y at *
      have HY := Lib.hid hy
      clear hy
      have HAPP := Lib.hid (show bytesOf (pre ++ numsT decT (xs.take k)) ++ ((⟨#[32]⟩ : ByteArray) ++ bytesOf (decT y)) = bytesOf (pre ++ numsT decT (xs.take (k + 1))) from by
        rw [HN.out, show (⟨#[32]⟩ : ByteArray) = bytesOf [32] from rfl, bytes_app, bytes_app, List.append_assoc]; rfl)
      go_wp2_with ((with_reducible refine (decS_any y _ x0 x1).mono ?_); rintro e w' ⟨rfl, rfl⟩)
      go_round
      case rel => exact ⟨k + 1, by omega, by go_num, by rw [HAPP.out]⟩
      case measure => simp [intOf]; omega
    · obtain rfl : k = xs.length := by omega
      go_wp2_with fail
      go_ret
      exact ⟨rfl, rfl⟩

end Go.Proofs.YtdgnhfhaaghoaaaGreatDoor
