/- Decimal numbers, read back: what both readers answer (RD), and a sealed text. No program is in sight. -/
import Derived.Lib.AtoiAll
import Derived.Lib.ItoaNum
import Derived.Lib.ItoaMem
import Derived.Test.YtbobohfhplfpgaaDoorCsumL
set_option linter.unusedVariables false
namespace Go.Proofs.YtbobohfhplfpgaaDoor
open Go.Lib

theorem dgt {k : Nat} (h : k < 10) : (UInt8.ofNat (48 + k)).toNat = 48 + k := by
  rw [UInt8.toNat_ofNat']
  omega
theorem digits_ind {P : Nat → List UInt8 → Prop} (h0 : ∀ k, k < 10 → P k [UInt8.ofNat (48 + k)]) (h1 : ∀ u k, k < 10 → 1 ≤ u → P u (decDigits u) → P (10 * u + k) (decDigits u ++ [UInt8.ofNat (48 + k)])) (n : Nat) : P n (decDigits n) := by
  induction n using Nat.strongRecOn with
  | ind n ih =>
    by_cases h : n < 10
    · rw [decDigits, dif_pos h]
      exact h0 n h
    · rw [decDigits, dif_neg h]
      have := h1 (n / 10) (n % 10) (by omega) (by omega) (ih (n / 10) (by omega))
      rwa [show 10 * (n / 10) + n % 10 = n by omega] at this
def isDg (b : UInt8) : Bool := decide (48 ≤ b.toNat) && decide (b.toNat ≤ 57)
def dVal (l : List UInt8) : Nat := l.foldl (fun n b => 10 * n + (b.toNat - 48)) 0
theorem digits_all (n : Nat) : ∀ b ∈ decDigits n, isDg b = true := by
  refine digits_ind (P := fun _ l => ∀ b ∈ l, isDg b = true) (fun k hk b hb => ?_) (fun u k hk _ ih b hb => ?_) n
  · rw [List.mem_singleton] at hb
    subst hb
    unfold isDg
    rw [dgt hk]
    simp
    omega
  · rcases List.mem_append.1 hb with hb | hb
    · exact ih b hb
    · rw [List.mem_singleton] at hb
      subst hb
      unfold isDg
      rw [dgt hk]
      simp
      omega
theorem digits_val (n : Nat) : dVal (decDigits n) = n := by
  refine digits_ind (P := fun n l => dVal l = n) (fun k hk => ?_) (fun u k hk _ ih => ?_) n
  · unfold dVal
    rw [List.foldl_cons, List.foldl_nil, dgt hk]
    omega
  · unfold dVal at ih ⊢
    rw [List.foldl_append, ih, List.foldl_cons, List.foldl_nil, dgt hk]
    omega
theorem digits_ne (n : Nat) : decDigits n ≠ [] := by
  refine digits_ind (P := fun _ l => l ≠ []) (fun k hk => by simp) (fun u k hk _ ih => by simp) n
theorem digits_inj {a b : Nat} (h : decDigits a = decDigits b) : a = b := by rw [← digits_val a, ← digits_val b, h]
theorem digits_len : ∀ (k n : Nat), n < 10 ^ (k + 1) → (decDigits n).length ≤ k + 1
  | 0, n, h => by rw [decDigits, dif_pos (by simpa using h)]; simp
  | k + 1, n, h => by
    by_cases h10 : n < 10
    · rw [decDigits, dif_pos h10]; simp
    · rw [decDigits, dif_neg h10]
      have := digits_len k (n / 10) (by rw [Nat.pow_succ] at h; omega)
      simp
      omega
theorem dVal_lt (l : List UInt8) (h : ∀ b ∈ l, isDg b = true) : dVal l < 10 ^ l.length := by
  have key : ∀ (l : List UInt8) (n k : Nat), (∀ b ∈ l, isDg b = true) → n < 10 ^ k → l.foldl (fun n b => 10 * n + (b.toNat - 48)) n < 10 ^ (k + l.length) := by
    intro l
    induction l with
    | nil => intro n k _ hn; simpa using hn
    | cons a l ih =>
      intro n k hd hn
      rw [List.foldl_cons, List.length_cons, show k + (l.length + 1) = (k + 1) + l.length by omega]
      refine ih _ _ (fun b hb => hd b (List.mem_cons_of_mem _ hb)) ?_
      have := hd a List.mem_cons_self
      unfold isDg at this
      simp at this
      rw [Nat.pow_succ]
      omega
  have := key l 0 0 h (by simp)
  simpa [dVal] using this
theorem parse_digits (n : Nat) : n < 1000000000 → ∀ r, parseUint10 0 (decDigits n ++ r) = parseUint10 n r := by
  refine digits_ind (P := fun n l => n < 1000000000 → ∀ r, parseUint10 0 (l ++ r) = parseUint10 n r) (fun k hk _ r => ?_) (fun u k hk h1 ih hu r => ?_) n
  · rw [List.singleton_append, parseUint10, if_pos (by rw [dgt hk]; omega), if_neg (by omega), if_neg (by rw [dgt hk]; omega), dgt hk]
    congr 1
    omega
  · rw [List.append_assoc, List.singleton_append, ih (by omega), parseUint10, if_pos (by rw [dgt hk]; omega), if_neg (by omega), if_neg (by rw [dgt hk]; omega), dgt hk]
    congr 1
    omega
theorem atoi_itoa {v : Int} (h0 : -999999999 ≤ v) (h1 : v ≤ 999999999) : atoiAll (itoa v) = .ok v := by
  have hm : ∀ u : Nat, u < 1000000000 → parseMag (decDigits u) = .ok u := fun u hu => by
    unfold parseMag
    rw [if_neg (digits_ne u)]
    have := parse_digits u hu []
    rw [List.append_nil] at this
    rw [this]
    rfl
  by_cases hv : v < 0
  · obtain ⟨m, rfl⟩ : ∃ m : Nat, v = -(m : Int) := ⟨v.natAbs, by omega⟩
    rw [itoa_neg m (by omega)]
    unfold atoiAll
    dsimp only
    rw [if_pos (Or.inr (by decide)), hm m (by omega)]
    dsimp only
    rw [if_neg (fun h => h.1 (by decide)), if_neg (by omega), if_pos (by decide)]
  · obtain ⟨m, rfl⟩ := Int.eq_ofNat_of_zero_le (show 0 ≤ v by omega)
    rw [itoa_nonneg]
    obtain ⟨c, r, hcr⟩ := List.exists_cons_of_ne_nil (digits_ne m)
    have hc := digits_all m c (by rw [hcr]; exact List.mem_cons_self)
    unfold isDg at hc
    simp at hc
    have hM := hm m (by omega)
    rw [hcr] at hM ⊢
    unfold atoiAll
    dsimp only
    rw [if_neg (by omega), hM]
    dsimp only
    rw [if_neg (by omega), if_neg (by omega), if_neg (by omega)]
theorem itoa_inj {a b : Int} (ha : -999999999 ≤ a) (ha1 : a ≤ 999999999) (hb : -999999999 ≤ b) (hb1 : b ≤ 999999999) (h : itoa a = itoa b) : a = b := by
  have h1 := atoi_itoa ha ha1
  rw [h, atoi_itoa hb hb1] at h1
  injection h1 with h1
  exact h1.symm

/-- What a reader of decimal numbers answers. -/
def RD (s : List UInt8) (v : Int) (ok : Bool) : Prop :=
  (ok = true ∧ itoa v = s ∧ -999999 ≤ v ∧ v ≤ 999999) ∨ (ok = false ∧ v = 0 ∧ ∀ u, -999999 ≤ u → u ≤ 999999 → itoa u ≠ s)
theorem RD.same {s : List UInt8} {v u : Int} {a b : Bool} (h : RD s v a) (k : RD s u b) : v = u ∧ a = b := by
  rcases h with ⟨rfl, h1, h2, h3⟩ | ⟨rfl, rfl, h1⟩
  · rcases k with ⟨rfl, k1, k2, k3⟩ | ⟨rfl, rfl, k1⟩
    · exact ⟨itoa_inj (by omega) (by omega) (by omega) (by omega) (h1.trans k1.symm), rfl⟩
    · exact absurd h1 (k1 v h2 h3)
  · rcases k with ⟨rfl, k1, k2, k3⟩ | ⟨rfl, rfl, k1⟩
    · exact absurd k1 (h1 u k2 k3)
    · exact ⟨rfl, rfl⟩
theorem RD.back {n v : Int} {a : Bool} (h0 : -999999 ≤ n) (h1 : n ≤ 999999) (h : RD (itoa n) v a) : v = n ∧ a = true :=
  h.same (Or.inl ⟨rfl, rfl, h0, h1⟩)
theorem rd_none {s : List UInt8} (h : ∀ v, atoiAll s ≠ .ok v) : RD s 0 false :=
  Or.inr ⟨rfl, rfl, fun u h0 h1 e => h u (by rw [← e]; exact atoi_itoa (by omega) (by omega))⟩
theorem rd_other {s : List UInt8} {v : Int} (h : atoiAll s = .ok v) (hv : itoa v ≠ s ∨ ¬ (-999999 ≤ v ∧ v ≤ 999999)) : RD s 0 false := by
  refine Or.inr ⟨rfl, rfl, fun u h0 h1 e => ?_⟩
  have : atoiAll s = .ok u := by rw [← e]; exact atoi_itoa (by omega) (by omega)
  rw [h] at this
  injection this with this
  subst this
  rcases hv with hv | hv
  · exact hv e
  · exact hv ⟨h0, h1⟩

/-- The text behind the sign, as the reference takes it. -/
def tailT (s : List UInt8) : List UInt8 := if 1 < s.length ∧ s.head? = some 45 then s.tail else s
theorem itoa_cases (u : Int) : (0 ≤ u ∧ itoa u = decDigits u.toNat) ∨ (u < 0 ∧ itoa u = 45 :: decDigits (-u).toNat) := by
  by_cases h : u < 0
  · right
    obtain ⟨m, rfl⟩ : ∃ m : Nat, u = -(m : Int) := ⟨u.natAbs, by omega⟩
    exact ⟨h, by rw [itoa_neg m (by omega)]; congr 2; omega⟩
  · left
    obtain ⟨m, rfl⟩ := Int.eq_ofNat_of_zero_le (show 0 ≤ u by omega)
    exact ⟨by omega, by rw [itoa_nonneg]; rfl⟩
theorem tail_itoa (u : Int) : tailT (itoa u) = decDigits u.natAbs ∧ ((tailT (itoa u)).length < (itoa u).length ↔ u < 0) := by
  rcases itoa_cases u with ⟨h, e⟩ | ⟨h, e⟩
  · have hne := digits_ne u.toNat
    obtain ⟨c, r, hcr⟩ := List.exists_cons_of_ne_nil hne
    have hc := digits_all u.toNat c (by rw [hcr]; exact List.mem_cons_self)
    have ht : tailT (itoa u) = itoa u := by
      unfold tailT
      rw [if_neg]
      rintro ⟨_, h2⟩
      rw [e, hcr, List.head?_cons, Option.some.injEq] at h2
      subst h2
      revert hc
      decide
    refine ⟨?_, ?_⟩
    · rw [ht, e]
      congr 1
      omega
    · rw [ht]
      omega
  · have hne := digits_ne (-u).toNat
    have hl := List.length_pos_iff.2 hne
    have ht : tailT (itoa u) = decDigits (-u).toNat := by
      unfold tailT
      rw [e, if_pos ⟨by rw [List.length_cons]; omega, rfl⟩]
      rfl
    refine ⟨?_, ?_⟩
    · rw [ht]
      congr 1
      omega
    · rw [ht, e, List.length_cons]
      omega
theorem rd_spec_len {s : List UInt8} (h : ¬ (1 ≤ (tailT s).length ∧ (tailT s).length ≤ 6)) : RD s 0 false := by
  refine Or.inr ⟨rfl, rfl, fun u h0 h1 e => h ?_⟩
  subst e
  rw [(tail_itoa u).1]
  exact ⟨List.length_pos_iff.2 (digits_ne _), digits_len 5 _ (by omega)⟩
theorem rd_spec_digit {s : List UInt8} {b : UInt8} (hb : b ∈ tailT s) (h : isDg b = false) : RD s 0 false := by
  refine Or.inr ⟨rfl, rfl, fun u h0 h1 e => ?_⟩
  subst e
  rw [(tail_itoa u).1] at hb
  rw [digits_all _ b hb] at h
  cases h
theorem rd_spec_end {s : List UInt8} (hl : (tailT s).length ≤ 6) (hd : ∀ b ∈ tailT s, isDg b = true) {n : Int} (hn : n = if (tailT s).length < s.length then -(dVal (tailT s) : Int) else (dVal (tailT s) : Int)) :
    RD s (if itoa n = s then n else 0) (decide (itoa n = s)) := by
  by_cases h : itoa n = s
  · rw [if_pos h, decide_eq_true h]
    have h1 := dVal_lt _ hd
    have h2 : 10 ^ (tailT s).length ≤ 10 ^ 6 := Nat.pow_le_pow_right (by omega) hl
    refine Or.inl ⟨rfl, h, ?_, ?_⟩ <;> (rw [hn]; split <;> omega)
  · rw [if_neg h, decide_eq_false h]
    refine Or.inr ⟨rfl, rfl, fun u h0 h1 e => h ?_⟩
    subst e
    have h3 := tail_itoa u
    rw [h3.1, digits_val] at hn
    rw [h3.1] at h3
    congr 1
    rw [hn]
    split
    · have := h3.2.1 ‹_›
      omega
    · have := mt h3.2.2 ‹_›
      omega
theorem digits_text : CsText decDigits where
  inj := fun a b h => digits_inj h
  plain := fun a h => by
    have := digits_all a 35 h
    revert this
    decide

theorem atoi_int {l : List UInt8} {v : Int} (h : atoiAll l = .ok v) : -9223372036854775808 ≤ v ∧ v ≤ 9223372036854775807 := by
  cases l with
  | nil => simp [atoiAll] at h
  | cons c r =>
    unfold atoiAll at h
    dsimp only at h
    split at h
    · cases h
    · cases h
    · split at h
      · cases h
      · split at h
        · cases h
        · injection h with h
          split at h <;> omega

end Go.Proofs.YtbobohfhplfpgaaDoor
