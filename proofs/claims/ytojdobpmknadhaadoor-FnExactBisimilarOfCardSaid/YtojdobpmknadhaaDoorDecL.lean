/- Numbers written in decimal, those below 100 as Go does it: each in its own way, without blanks and commas. No program is in sight. -/
import Derived.Test.YtojdobpmknadhaaDoorRoundL
set_option linter.unusedVariables false
namespace Go.Proofs.YtojdobpmknadhaaDoor

def dec2 (m : Nat) : List UInt8 := if m < 10 then [UInt8.ofNat (48 + m)] else [UInt8.ofNat (48 + m / 10), UInt8.ofNat (48 + m % 10)]
def decT (x : Int) : List UInt8 := if 0 ≤ x then if x < 100 then dec2 x.toNat else List.replicate x.toNat 200 else List.replicate (-x).toNat 201
def rd2 : List UInt8 → Nat
  | [] => 0
  | [a] => a.toNat - 48
  | a :: b :: _ => (a.toNat - 48) * 10 + (b.toNat - 48)
def rdT (l : List UInt8) : Int := if l.head? = some 200 then (l.length : Int) else if l.head? = some 201 then -(l.length : Int) else (rd2 l : Int)
theorem rd_small : ∀ m : Fin 100, (dec2 m.val).head? ≠ some 200 ∧ (dec2 m.val).head? ≠ some 201 ∧ rd2 (dec2 m.val) = m.val ∧ ((dec2 m.val).all fun b => !(b == 32 || b == 44)) = true := by decide +kernel
theorem rd_dec (x : Int) : rdT (decT x) = x := by
  unfold decT
  split
  · split
    · obtain ⟨h1, h2, h3, _⟩ := rd_small ⟨x.toNat, by omega⟩
      unfold rdT
      rw [if_neg h1, if_neg h2]
      have : rd2 (dec2 x.toNat) = x.toNat := h3
      omega
    · obtain ⟨n, hn⟩ : ∃ n, x.toNat = n + 1 := ⟨x.toNat - 1, by omega⟩
      unfold rdT
      rw [if_pos (by rw [hn]; rfl), List.length_replicate]
      omega
  · obtain ⟨n, hn⟩ : ∃ n, (-x).toNat = n + 1 := ⟨(-x).toNat - 1, by omega⟩
    unfold rdT
    rw [if_neg (by rw [hn, List.replicate_succ, List.head?_cons]; decide), if_pos (by rw [hn]; rfl), List.length_replicate]
    omega
theorem dec_text : NumText decT where
  inj := fun a b h => by rw [← rd_dec a, ← rd_dec b, h]
  plain := fun a b hb => by
    unfold decT at hb
    split at hb
    · split at hb
      · have := (rd_small ⟨a.toNat, by omega⟩).2.2.2
        rw [List.all_eq_true] at this
        simpa using this b hb
      · obtain rfl := (List.mem_replicate.1 hb).2
        decide
    · obtain rfl := (List.mem_replicate.1 hb).2
      decide
theorem dec_len {x : Int} (h0 : 0 ≤ x) (h1 : x < 100) : (decT x).length ≤ 2 := by
  unfold decT dec2
  rw [if_pos h0, if_pos h1]
  split <;> simp
theorem nums_len {l : List Int} (h : ∀ x ∈ l, 0 ≤ x ∧ x < 100) : (numsT decT l).length ≤ 3 * l.length := by
  induction l with
  | nil => simp [numsT]
  | cons y l ih =>
    have h1 := ih fun x hx => h x (List.mem_cons_of_mem _ hx)
    obtain ⟨h2, h3⟩ := h y (List.mem_cons_self)
    have h4 := dec_len h2 h3
    unfold numsT at h1 ⊢
    rw [List.flatMap_cons, List.length_append, List.length_cons, List.length_cons]
    omega
theorem nums_take {l : List Int} {k : Nat} (h : k < l.length) : numsT decT (l.take (k + 1)) = numsT decT (l.take k) ++ (32 :: decT (l.getD k 0)) := by
  have e : l.getD k 0 = l[k] := by simp [List.getD, h]
  unfold numsT
  rw [List.take_succ_eq_append_getElem h, e, List.flatMap_append]
  simp only [List.flatMap_cons, List.flatMap_nil, List.append_nil]

end Go.Proofs.YtojdobpmknadhaaDoor
