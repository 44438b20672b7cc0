/- What a valid signature and a valid bigraph is. Plain words; no walk. -/
import Derived.Test.YtmnnbgciakigfaaDoorGr
import Derived.Test.YtmnnbgciakigfaaDoorName
import Derived.Test.YtmnnbgciakigfaaDoorRise
import Derived.Test.YtmnnbgciakigfaaDoorIdx
import Derived.Laws.Cover1
set_option linter.unusedVariables false
namespace Go.Proofs.YtmnnbgciakigfaaDoor
open Go.RowKit

def ct0 : Ct := (default, 0, 0)
def nod0 : Nod := (0, 0, [])
def wi0 : Wi := (default, 0)
def ctA (sig : List Ct) (i : Nat) : Ct := sig.getD i ct0
def nodA (g : Gr) (i : Nat) : Nod := g.nodes.getD i nod0
def wiA (g : Gr) (i : Nat) : Wi := g.inner.getD i wi0
def lessS (a b : ByteArray) : Bool := Op.bytesLess a.toList b.toList
def portsA (sig : List Ct) (c : Int) : Int := (ctA sig c.toNat).2.1
def kindA (sig : List Ct) (c : Int) : Int := (ctA sig c.toNat).2.2

def ctB (sig : List Ct) (i : Nat) : Bool := nameB (ctA sig i).1 && inB (ctA sig i).2.1 0 3 && inB (ctA sig i).2.2 0 2 && !anyR i fun k => decide ((ctA sig k).1 = (ctA sig i).1)
def sigB (sig : List Ct) : Bool := inB sig.length 1 6 && allR sig.length (ctB sig)
def linkB (g : Gr) (l : Int) : Bool := inB l 0 (g.edges + g.outer.length - 1)
def underB (sig : List Ct) (g : Gr) (p : Int) (below : Int) : Bool := if p < 0 then decide (-g.roots ≤ p) else decide (p < below) && !(kindA sig (nodA g p.toNat).1 == 2)
def nodB (sig : List Ct) (g : Gr) (i : Nat) : Bool :=
  inB (nodA g i).1 0 ((sig.length : Int) - 1) && underB sig g (nodA g i).2.1 i && (((nodA g i).2.2.length : Int) == portsA sig (nodA g i).1) && allR (nodA g i).2.2.length fun k => linkB g ((nodA g i).2.2.getD k 0)
def nameAt (l : List ByteArray) (i : Nat) : Bool := nameB (l.getD i default) && (i == 0 || lessS (l.getD (i - 1) default) (l.getD i default))
def namesB (l : List ByteArray) : Bool := allR l.length (nameAt l) && decide (l.length ≤ 16)
def innerN (g : Gr) : List ByteArray := g.inner.map fun x => x.1

/-- The parts of what a valid bigraph is. -/
def headB (sig : List Ct) (g : Gr) : Bool := sigB sig && inB g.roots 0 4 && decide (g.nodes.length ≤ 8) && decide (g.sites.length ≤ 4) && inB g.edges 0 8
def nodsB (sig : List Ct) (g : Gr) : Bool := allR g.nodes.length (nodB sig g)
def sitsB (sig : List Ct) (g : Gr) : Bool := allR g.sites.length fun i => underB sig g (g.sites.getD i 0) g.nodes.length
def innsB (g : Gr) : Bool := allR g.inner.length fun i => linkB g (wiA g i).2
def goodG (sig : List Ct) (g : Gr) : Bool := headB sig g && namesB g.outer && namesB (innerN g) && nodsB sig g && sitsB sig g && innsB g

theorem allR_get {n : Nat} {p : Nat → Bool} (h : allR n p = true) {k : Nat} (hk : k < n) : p k = true := by
  unfold allR at h
  rw [List.all_eq_true] at h
  exact h k (List.mem_range.2 hk)

theorem bytes_asym : ∀ (x y : List UInt8), Op.bytesLess x y = true → Op.bytesLess y x = false
  | [], [], h => by simp [Op.bytesLess] at h
  | a :: x, [], h => by simp [Op.bytesLess] at h
  | [], b :: y, h => by simp [Op.bytesLess]
  | a :: x, b :: y, h => by
    simp only [Op.bytesLess, Bool.or_eq_true, Bool.and_eq_true, decide_eq_true_eq, beq_iff_eq] at h
    have hne : ∀ (c d : UInt8), c < d → ¬ d < c := fun c d h => by
      rw [UInt8.lt_iff_toNat_lt] at h ⊢; omega
    rcases h with h | ⟨rfl, h⟩
    · have h1 := hne _ _ h
      have h2 : ¬ b = a := fun e => by subst e; exact hne _ _ h h
      simp [Op.bytesLess, h1, h2]
    · have h1 : ¬ a < a := fun h => hne _ _ h h
      simp [Op.bytesLess, h1, bytes_asym x y h]
theorem bytes_total : ∀ (x y : List UInt8), Op.bytesLess x y = false → Op.bytesLess y x = false → x = y
  | [], [], _, _ => rfl
  | a :: x, [], _, h => by simp [Op.bytesLess] at h
  | [], b :: y, h, _ => by simp [Op.bytesLess] at h
  | a :: x, b :: y, h, k => by
    simp only [Op.bytesLess, Bool.or_eq_false_iff, Bool.and_eq_false_iff, decide_eq_false_iff_not, beq_eq_false_iff_ne] at h k
    have e : a = b := by
      apply UInt8.toNat_inj.1
      have h1 := h.1
      have k1 := k.1
      rw [UInt8.lt_iff_toNat_lt] at h1 k1
      omega
    subst e
    have h2 : Op.bytesLess x y = false := by rcases h.2 with h | h; exact absurd rfl h; exact h
    have k2 : Op.bytesLess y x = false := by rcases k.2 with h | h; exact absurd rfl h; exact h
    rw [bytes_total x y h2 k2]
theorem bytes_irr (x : List UInt8) : Op.bytesLess x x = false := by
  cases h : Op.bytesLess x x with
  | false => rfl
  | true => rw [bytes_asym x x h] at h; cases h
theorem toList_inj {x y : ByteArray} (h : x.toList = y.toList) : x = y := by
  rw [ByteArray.toList_eq, ByteArray.toList_eq] at h
  exact ByteArray.ext (Array.toList_inj.1 h)
/-- 's <= p' is not 'p < s'. -/
theorem less_leq (p s : ByteArray) : (Op.bytesLess s.toList p.toList || s.toList == p.toList) = !lessS p s := by
  unfold lessS
  cases h : Op.bytesLess p.toList s.toList with
  | true =>
    have h1 := bytes_asym _ _ h
    have h2 : ¬ s.toList = p.toList := fun e => by rw [e, bytes_irr] at h; cases h
    simp [h1, h2]
  | false =>
    cases h2 : Op.bytesLess s.toList p.toList with
    | true => rfl
    | false => simp [bytes_total _ _ h2 h]

end Go.Proofs.YtmnnbgciakigfaaDoor
