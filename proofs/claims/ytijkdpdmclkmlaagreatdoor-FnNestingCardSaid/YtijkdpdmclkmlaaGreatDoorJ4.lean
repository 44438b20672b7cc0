/- What waits for what in a region: an operation that has not come up keeps back each one that waits for it; at the end all have come up. No program is in sight. The walks of the two functions that find the end of a formula: program and reference. Conditions: the slice's cells are readable. DERIVED: THE SHELF's CONTRACTS AT THIS DUMP, IN PLAIN WORDS (tools/lay-plain.mjs out of 'YtijkdpdmclkmlaaGreatDoorShelfA.lean', which tools/lay-shelf.mjs wrote): THE SAME DECLARATIONS UNDER THE SAME NAMES: 'import', 'namespace', 'open', 'def', 'theorem' AND NOTHING ELSE: no command of the shelf's: FOR A HAND-IN. Each laying: the table of numbers ('.._ren') and one theorem, a field a fact of the dump's own or the kernel's comparison; each contract: ONE APPLICATION. Names: what program and reference take for a name, walked; both are the same test of the text. -/
import Derived.Test.YtijkdpdmclkmlaaGreatDoorJ3
import Derived.Test.YtijkdpdmclkmlaaGreatDoorProg
import Derived.WalkKit
import Derived.WalkSpells
import Derived.WalkLawsBesides
import Derived.Lib.Hide
import Derived.BigQuiet
import Derived.Deep.QuietTactic
import Derived.Ground.NamesProg
import Derived.Shelf.Strings.SlTrimAscii
import Derived.Test.YtijkdpdmclkmlaaGreatDoorJ0
set_option linter.unusedSimpArgs false
set_option linter.unusedVariables false
set_option maxRecDepth 100000
set_option maxHeartbeats 16000000
namespace Go.Proofs.YtijkdpdmclkmlaaGreatDoor
open Go.RowKit
theorem early_on {ops : Array Oper} (h : earlyB ops = true) (k : Nat) (o : Oper) (ho : ops[k]? = some o) : ∀ e ∈ o.after, Region.binds .any e = true → e.on < k := fun e he hb => by
  have hk := (Array.getElem?_eq_some_iff.1 ho).1
  unfold earlyB at h
  rw [List.all_eq_true] at h
  have h2 := h k (List.mem_range.2 hk)
  rw [List.all_eq_true] at h2
  have h3 := h2 e (by rw [Array.getD_eq_getD_getElem?, ho]; exact Array.mem_toList_iff.2 he)
  rw [hb] at h3
  simpa using h3

theorem dc_no {ops : Array Oper} {L : Nat → Bool} {n i : Nat} (hC : DC ops L) (hL : L i = false) (hb : (earlyB ops && (decide (n < ops.size) && reachB ops (n + 1) n i)) = true) : L n = false := by
  simp only [Bool.and_eq_true, decide_eq_true_eq] at hb
  cases h : L n
  · rfl
  rw [dc_reach hC _ n i hb.2.1 (fun k o ho e he hb' => Nat.lt_trans (early_on hb.1 k o ho e he hb') (Array.getElem?_eq_some_iff.1 ho).1) h hb.2.2] at hL
  cases hL

theorem fin_all {ops : Array Oper} {L : Nat → Bool} (n : Nat) (hb : (earlyB ops && ops.size == n) = true) (hfin : ∀ i o, ops[i]? = some o → L i = false → ∃ e ∈ o.after, Region.binds .any e = true ∧ L e.on = false) : ∀ q, q < n → L q = true := by
  simp only [Bool.and_eq_true, beq_iff_eq] at hb
  have key : ∀ m q, q < m → q < n → L q = true := by
    intro m
    induction m with
    | zero => intro q h; omega
    | succ m ih =>
      intro q hq hqs
      cases hl : L q with
      | true => rfl
      | false =>
        have hqs' : q < ops.size := by omega
        obtain ⟨e, he, hbe, hon⟩ := hfin q _ (Array.getElem?_eq_getElem hqs') hl
        have h := early_on hb.1 q _ (Array.getElem?_eq_getElem hqs') e he hbe
        rw [ih e.on (by omega) (by omega)] at hon
        cases hon
  exact fun q hq => key n q hq hq

def inB (n lo hi : Int) : Bool := decide (lo ≤ n) && decide (n ≤ hi)

theorem inB_true {n lo hi : Int} (h : inB n lo hi = true) : lo ≤ n ∧ n ≤ hi := by simpa [inB] using h
set_option maxHeartbeats 400000 in
theorem within_any (n lo hi : Int) (w : World) :
    Calls Tryz.prog 90 #[.int .i64 n, .int .i64 lo, .int .i64 hi] w fun e w' => e = .returned (.bool (inB n lo hi)) ∧ w = w' := by
  unfold inB
  go_enter Tryz.func90, Tryz.ntmps90
  go_wp2
  all_goals go_ret
  all_goals exact ⟨by simp [*]; try omega, rfl⟩

set_option maxHeartbeats 400000 in
theorem l1In_any (n lo hi : Int) (w : World) :
    Calls Tryz.prog 93 #[.int .i64 n, .int .i64 lo, .int .i64 hi] w fun e w' => e = .returned (.bool (inB n lo hi)) ∧ w = w' := by
  unfold inB
  go_enter Tryz.func93, Tryz.ntmps93
  go_wp2
  all_goals go_ret
  all_goals exact ⟨by simp [*]; try omega, rfl⟩

end Go.Proofs.YtijkdpdmclkmlaaGreatDoor

namespace Go.Proofs
open Go.Shelf
def Tryz.lays160_ren : Go.Shelf.Ren := ⟨fun | 160 => 198 | 232 => 240 | 231 => 239 | 227 => 241 | 234 => 243 | 233 => 242 | 236 => 245 | 235 => 244 | 228 => 266 | 271 => 269 | 151 => 268 | 197 => 267 | 120 => 295 | 152 => 294 | 260 => 293 | 137 => 304 | 119 => 305 | 224 => 306 | 225 => 307 | 217 => 310 | 266 => 311 | n => n, fun | 9 => 9 | 4 => 4 | 3 => 3 | 5 => 5 | 117 => 176 | 116 => 175 | 0 => 0 | 124 => 179 | 21 => 21 | 105 => 199 | 46 => 128 | 119 => 226 | 139 => 229 | 138 => 228 | n => n, fun | 3 => 0 | 4 => 1 | n => n⟩
theorem Tryz.lays160 : Go.Proofs.Lays.n160 Tryz.prog Tryz.lays160_ren := {
  mixed := by kernel_rfl
  f119 := Tryz.func305.trans (congrArg some (by kernel_rfl))
  f120 := Tryz.func295.trans (congrArg some (by kernel_rfl))
  f137 := Tryz.func304.trans (congrArg some (by kernel_rfl))
  f151 := Tryz.func268.trans (congrArg some (by kernel_rfl))
  f152 := Tryz.func294.trans (congrArg some (by kernel_rfl))
  f160 := Tryz.func198.trans (congrArg some (by kernel_rfl))
  f197 := Tryz.func267.trans (congrArg some (by kernel_rfl))
  f217 := Tryz.func310.trans (congrArg some (by kernel_rfl))
  f224 := Tryz.func306.trans (congrArg some (by kernel_rfl))
  f225 := Tryz.func307.trans (congrArg some (by kernel_rfl))
  f227 := Tryz.func241.trans (congrArg some (by kernel_rfl))
  f228 := Tryz.func266.trans (congrArg some (by kernel_rfl))
  f231 := Tryz.func239.trans (congrArg some (by kernel_rfl))
  f232 := Tryz.func240.trans (congrArg some (by kernel_rfl))
  f233 := Tryz.func242.trans (congrArg some (by kernel_rfl))
  f234 := Tryz.func243.trans (congrArg some (by kernel_rfl))
  f235 := Tryz.func244.trans (congrArg some (by kernel_rfl))
  f236 := Tryz.func245.trans (congrArg some (by kernel_rfl))
  f260 := Tryz.func293.trans (congrArg some (by kernel_rfl))
  f266 := Tryz.func311.trans (congrArg some (by kernel_rfl))
  f271 := Tryz.func269.trans (congrArg some (by kernel_rfl))
  t0 := Tryz.underlying0
  a0 := Tryz.isAgg0
  z0 := Tryz.sizeOf0
  v0 := Tryz.zeroValue0
  t3 := Tryz.underlying3
  a3 := Tryz.isAgg3
  z3 := Tryz.sizeOf3
  v3 := Tryz.zeroValue3
  t4 := Tryz.underlying4
  a4 := Tryz.isAgg4
  z4 := Tryz.sizeOf4
  v4 := Tryz.zeroValue4
  t5 := Tryz.underlying5
  a5 := Tryz.isAgg5
  z5 := Tryz.sizeOf5
  v5 := Tryz.zeroValue5
  t9 := Tryz.underlying9
  a9 := Tryz.isAgg9
  z9 := Tryz.sizeOf9
  v9 := Tryz.zeroValue9
  t21 := Tryz.underlying21
  a21 := Tryz.isAgg21
  z21 := Tryz.sizeOf21
  v21 := Tryz.zeroValue21
  t46 := Tryz.underlying128
  a46 := Tryz.isAgg128
  z46 := Tryz.sizeOf128
  v46 := Tryz.zeroValue128
  t105 := Tryz.underlying199
  a105 := Tryz.isAgg199
  z105 := Tryz.sizeOf199
  v105 := Tryz.zeroValue199
  t116 := Tryz.underlying175
  a116 := Tryz.isAgg175
  z116 := Tryz.sizeOf175
  t117 := Tryz.underlying176
  a117 := Tryz.isAgg176
  z117 := Tryz.sizeOf176
  v117 := Tryz.zeroValue176
  t119 := Tryz.underlying226
  a119 := Tryz.isAgg226
  z119 := Tryz.sizeOf226
  t124 := Tryz.underlying179
  a124 := Tryz.isAgg179
  z124 := Tryz.sizeOf179
  v124 := Tryz.zeroValue179
  t138 := Tryz.underlying228
  a138 := Tryz.isAgg228
  z138 := Tryz.sizeOf228
  v138 := Tryz.zeroValue228
  t139 := Tryz.underlying229
  a139 := Tryz.isAgg229
  z139 := Tryz.sizeOf229
  v139 := Tryz.zeroValue229
  g3 := by kernel_rfl
  g4 := by kernel_rfl }
end Go.Proofs

namespace Go.Proofs.YtijkdpdmclkmlaaGreatDoor
open Go.RowKit
def isLow (b : UInt8) : Bool := decide (97 ≤ b.toNat) && decide (b.toNat ≤ 122)
def lowB (s : ByteArray) : Bool := s.data.toList.all isLow
def nameB (s : ByteArray) : Bool := inB s.size 1 4 && lowB s

def lows : ByteArray := ⟨#[97, 98, 99, 100, 101, 102, 103, 104, 105, 106, 107, 108, 109, 110, 111, 112, 113, 114, 115, 116, 117, 118, 119, 120, 121, 122]⟩

theorem lows_nat : ∀ n : Fin 256, lows.data.toList.contains (UInt8.ofNat n.val) = (decide (97 ≤ n.val) && decide (n.val ≤ 122)) := by decide +kernel
theorem lows_has (b : UInt8) : lows.data.toList.contains b = isLow b := by
  have := lows_nat ⟨b.toNat, b.toNat_lt⟩
  simpa [isLow] using this

theorem dropWhile_nil {α : Type} (p : α → Bool) (l : List α) : l.dropWhile p = [] ↔ l.all p = true := by
  induction l with
  | nil => simp
  | cons a r ih =>
    by_cases h : p a = true
    · simp [List.dropWhile_cons, h, ih]
    simp [List.dropWhile_cons, h]

theorem trim_lows (s : ByteArray) : Lib.trimS s.data.toList lows.data.toList = [] ↔ lowB s = true := by
  have e : (fun x => lows.data.toList.contains x) = isLow := funext lows_has
  unfold lowB Lib.trimS
  unfold Lib.trimRightS Lib.trimLeftS
  rw [e, dropWhile_nil, List.all_reverse, ← List.all_reverse (l := s.data.toList), ← dropWhile_nil isLow s.data.toList.reverse]
  generalize s.data.toList.reverse = l
  constructor
  · intro h
    by_cases hn : l.dropWhile isLow = []
    · exact hn
    exfalso
    have h2 := List.head_dropWhile_not isLow (l := l) hn
    have h3 := List.all_eq_true.1 h _ (List.head_mem hn)
    simp [h3] at h2
  intro h
  rw [h]
  rfl

theorem info_set : (Tryz.prog.info? (Tryz.lays160_ren.t 116)).map (fun i => (i.zero, i.size)) = some (some (.agg (Array.replicate 256 (.bool false))), 256) := by kernel_rfl

theorem trim_any (s : ByteArray) (w : World) (hs : s.size ≤ maxLen) :
    Calls Tryz.prog 198 #[.string s, .string lows] w fun e w' => e = .returned (.string ⟨(Lib.trimS s.data.toList lows.data.toList).toArray⟩) ∧ Below w.heap.size w w' :=
  Any.strings_Trim_laid Tryz.lays160 info_set s lows w (by unfold maxLen at hs; omega) (by decide) (ascii_of_all (by decide +kernel))

set_option maxHeartbeats 400000 in
theorem isName_any (s : ByteArray) (w : World) (hs : s.size ≤ maxLen) :
    Calls Tryz.prog 119 #[.string s] w fun e w' => e = .returned (.bool (nameB s)) ∧ Below w.heap.size w w' := by
  have H := Lib.hid (trim_any s w hs)
  have hT := trim_lows s
  have hs' : s.size ≤ 9223372036854775807 := by unfold maxLen at hs; omega
  clear hs
  unfold nameB
  generalize Lib.trimS s.data.toList lows.data.toList = r at *
  by_cases hin : inB s.size 1 4 = true
  · rw [hin, Bool.true_and]
    by_cases hl : lowB s = true
    · obtain rfl := hT.2 hl
      rw [hl]
      go_enter Tryz.func119, Tryz.ntmps119
      go_wp2_with ((with_reducible refine (within_any ..).mono ?_); rintro e w' ⟨rfl, rfl⟩)
      refine H.out.mono ?_
      rintro e w1 ⟨rfl, hb⟩
      go_wp2
      go_ret
      exact ⟨rfl, hb⟩
    have hl' : lowB s = false := by simpa using hl
    have hr : r ≠ [] := fun e => hl (hT.1 e)
    have he : r.isEmpty = false := by simpa using hr
    clear hT hr hl
    rw [hl']
    go_enter Tryz.func119, Tryz.ntmps119
    go_wp2_with ((with_reducible refine (within_any ..).mono ?_); rintro e w' ⟨rfl, rfl⟩)
    refine H.out.mono ?_
    rintro e w1 ⟨rfl, hb⟩
    go_wp2
    go_ret
    exact ⟨rfl, hb⟩
  have hin' : inB s.size 1 4 = false := by simpa using hin
  clear hin hT
  rw [hin', Bool.false_and]
  go_enter Tryz.func119, Tryz.ntmps119
  go_wp2_with ((with_reducible refine (within_any ..).mono ?_); rintro e w' ⟨rfl, rfl⟩)
  go_ret
  exact ⟨rfl, Below.refl _ _⟩

set_option maxHeartbeats 400000 in
theorem l2Name_any (s : ByteArray) (w : World) (hs : s.size ≤ maxLen) :
    Calls Tryz.prog 201 #[.string s] w fun e w' => e = .returned (.bool (nameB s)) ∧ w = w' := by
  have hs' : s.size ≤ 9223372036854775807 := by unfold maxLen at hs; omega
  clear hs
  go_enter Tryz.func201, Tryz.ntmps201
  go_wp2
  go_loop [3] (fun i => ∃ k : Nat, k ≤ s.size ∧ i = .int .i64 k ∧ (s.data.toList.take k).all isLow = true) (fun i => s.size - (intOf i).toNat)
  case atStart => exact ⟨0, Nat.zero_le _, rfl, rfl⟩
  obtain ⟨k, hk, rfl, hall⟩ := hrel
  by_cases hlt : k < s.size
  · have hlt' : k < s.data.toList.length := by simpa using hlt
    have hb : s.data.toList[k] = s[k] := rfl
    have HF := Lib.hid (show isLow s[k] = false → nameB s = false from fun h => by
      have : lowB s = false := by
        unfold lowB
        rw [List.all_eq_false]
        exact ⟨s.data.toList[k], List.getElem_mem _, by rw [hb, h]; decide⟩
      unfold nameB
      rw [this, Bool.and_false])
    have HG := Lib.hid (show isLow s[k] = true → (s.data.toList.take (k + 1)).all isLow = true from fun h => by
      rw [List.take_succ_eq_append_getElem hlt', List.all_append, hall, hb]
      simp [h])
    clear hall hb
    go_wp2
    all_goals first
      | (go_ret; exact ⟨by rw [HF.out (by simp [isLow]; omega)]; rfl, rfl⟩)
      | skip
    go_round
    case rel => exact ⟨k + 1, by omega, by go_num, HG.out (by simp [isLow]; omega)⟩
    case measure => simp [intOf]; omega
  obtain rfl : k = s.size := by omega
  have he : lowB s = true := by
    unfold lowB
    rw [List.take_of_length_le (by simp)] at hall
    exact hall
  have HE := Lib.hid (show nameB s = inB s.size 1 4 by unfold nameB; rw [he, Bool.and_true])
  clear hall he
  go_wp2_with ((with_reducible refine (l1In_any ..).mono ?_); rintro e w' ⟨rfl, rfl⟩)
  go_ret
  exact ⟨by rw [HE.out]; rfl, rfl⟩

end Go.Proofs.YtijkdpdmclkmlaaGreatDoor
