/- Maps from pairs of numbers to truth values, in a block of a call's own: made, read, written, ranged over while entries that are there are written. No program is in sight. -/
import Derived.Maps.OwnOps
import Derived.Maps.RangeWalk
import Derived.DeepKeys4
import Derived.WalkKit
set_option linter.unusedSimpArgs false
set_option linter.unusedVariables false
namespace Go.Proofs.YtdgnhfhaaghoaaaGreatDoor
open Go.RowKit Go.ChangeMaps Go.MapKept
open Go.Maps (Keyed)

def KV (a b : Int) : Value := .agg #[.int .i64 a, .int .i64 b]
theorem KV_inj {a b c d : Int} (h : KV a b = KV c d) : a = c ∧ b = d := by
  simp [KV] at h
  exact h
def InS (a : Int) : Prop := 0 ≤ a ∧ a ≤ 1000

/-- Such pairs are keys. -/
def PairKey (P : Program) (K : TypeId) : Prop := Keyed P K ∧ ∀ a b, InS a → InS b → ∃ l, keyOf P K (KV a b) = some l

/-- The entries are the pairs of dm, and hold what r tells. -/
structure BMap (es : Array MapEntry) (clock : Nat) (dm r : Int → Int → Bool) : Prop where
  st : Stamped es clock
  ent : ∀ x ∈ es.toList, ∃ a b, InS a ∧ InS b ∧ x.key = KV a b ∧ x.val = .bool (r a b)
  dom : ∀ a b, dm a b = true ↔ ∃ x ∈ es.toList, x.key = KV a b
  off : ∀ a b, dm a b = false → r a b = false

def BRel (w : World) (b : Nat) (dm r : Int → Int → Bool) : Prop := ∃ es clock, w.heap[b]? = some (.map es clock) ∧ BMap es clock dm r

def setB (f : Int → Int → Bool) (a b : Int) (v : Bool) : Int → Int → Bool := fun x y => if x = a ∧ y = b then v else f x y
theorem setB_same (f : Int → Int → Bool) (a b : Int) (v : Bool) : setB f a b v a b = v := by simp [setB]
theorem setB_other {f : Int → Int → Bool} {a b x y : Int} {v : Bool} (h : ¬ (x = a ∧ y = b)) : setB f a b v x y = f x y := by simp [setB, h]

section
variable {P : Program} {K E : TypeId} {w w' : World} {b : Nat} {dm r : Int → Int → Bool} {es : Array MapEntry} {clock : Nat}

theorem brel_made (w : World) : BRel (w.alloc (.map #[] 0)) w.heap.size (fun _ _ => false) (fun _ _ => false) :=
  ⟨#[], 0, (MapKept.heap_alloc w _).1, ⟨stamped_empty 0, fun x h => by simp at h, fun a b => by simp, fun _ _ _ => rfl⟩⟩
theorem BRel.lt (h : BRel w b dm r) : b < w.heap.size := by
  obtain ⟨es, clock, hb, _⟩ := h
  exact (Array.getElem?_eq_some_iff.1 hb).1
theorem BRel.below {B : Nat} (h : BRel w b dm r) (hb : Below B w w') (hB : w.heap.size ≤ B) : BRel w' b dm r := by
  have := h.lt
  obtain ⟨es, clock, h1, h2⟩ := h
  exact ⟨es, clock, (hb.block b (by omega)).trans h1, h2⟩

theorem BMap.keys (hk : PairKey P K) (h : BMap es clock dm r) : ∀ e ∈ es.toList, ∃ l, keyOf P K e.key = some l := fun e he => by
  obtain ⟨a, b, ha, hb, e1, _⟩ := h.ent e he
  rw [e1]
  exact hk.2 a b ha hb

theorem run_look (hk : PairKey P K) {t : TypeId} (ht : P.underlying t = some (.map K E)) (hz : (zeroValue E).run P w = .ok (.bool false) w) (h : BRel w b dm r) {x y : Int} (hx : InS x) (hy : InS y) :
    (Instr.lookup t (.map (some b)) (KV x y) false).run P w = .ok (.bool (r x y)) w := by
  obtain ⟨es, clock, hb, hm⟩ := h
  obtain ⟨l, hl⟩ := hk.2 x y hx hy
  rcases hk.1.find w hl es.toList (hm.keys hk) with ⟨h1, h2⟩ | ⟨j, e0, h1, h2, h3⟩
  · have hd : r x y = false := hm.off x y (by
      rw [Bool.eq_false_iff]
      intro e
      obtain ⟨e1, he1, he2⟩ := (hm.dom x y).1 e
      exact h2 e1 he1 he2)
    rw [hd]
    simp [Instr.lookup, run_underlying ht, MapKept.run_getObj_map hb, hk.1.check w _ hl, h1, hz, Result.andThen]
  · obtain ⟨a, b', ha, hb', e1, e2⟩ := hm.ent e0 (List.mem_of_getElem? h2)
    obtain ⟨rfl, rfl⟩ := KV_inj (e1.symm.trans h3)
    simp [Instr.lookup, run_underlying ht, MapKept.run_getObj_map hb, hk.1.check w _ hl, h1, e2, Result.andThen]

theorem modify_list {es : Array MapEntry} {j : Nat} {e0 : MapEntry} (f : MapEntry → MapEntry) (h : es.toList[j]? = some e0) : (es.modify j f).toList = es.toList.set j (f e0) := by
  rw [Array.toList_modify, modify_eq_set _ _ _ _ h]

/-- What a store leaves: the entry at the key alone is another one. -/
theorem run_put (hk : PairKey P K) {t : TypeId} (ht : P.underlying t = some (.map K E)) (hb : w.heap[b]? = some (.map es clock)) (hm : BMap es clock dm r) {x y : Int} (hx : InS x) (hy : InS y) (v : Bool) :
    ∃ es' clock', (Instr.mapUpdate t (.map (some b)) (KV x y) (.bool v)).run P w = .ok () (setBlock w b (.map es' clock')) ∧ BMap es' clock' (setB dm x y true) (setB r x y v) ∧
      (dm x y = true → clock' = clock ∧ ∀ seen : Array Nat, (leftOf es' seen).size = (leftOf es seen).size ∧ (∀ x1 ∈ es'.toList, ∃ x0 ∈ es.toList, x0.born = x1.born ∧ x0.key = x1.key) ∧ (∀ x0 ∈ es.toList, ∃ x1 ∈ es'.toList, x0.born = x1.born ∧ x0.key = x1.key)) := by
  obtain ⟨l, hl⟩ := hk.2 x y hx hy
  rcases hk.1.find w hl es.toList (hm.keys hk) with ⟨h1, h2⟩ | ⟨j, e0, h1, h2, h3⟩
  · refine ⟨es.push ⟨KV x y, .bool v, clock⟩, clock + 1, ?_, ⟨stamped_push hm.st h2, fun e he => ?_, fun a b' => ?_, fun a b' h => ?_⟩, fun hd => ?_⟩
    · simp [Instr.mapUpdate, run_underlying ht, MapKept.run_getObj_map hb, hk.1.check w false hl, h1, MapKept.run_setObj_map _ hb, Result.andThen, setBlock]
    · simp only [Array.toList_push, List.mem_append, List.mem_singleton] at he
      rcases he with he | rfl
      · obtain ⟨a, b', ha, hb', e1, e2⟩ := hm.ent e he
        refine ⟨a, b', ha, hb', e1, ?_⟩
        rw [setB_other, e2]
        rintro ⟨rfl, rfl⟩
        exact h2 e he e1
      · exact ⟨x, y, hx, hy, rfl, by rw [setB_same]⟩
    · by_cases hxy : a = x ∧ b' = y
      · obtain ⟨rfl, rfl⟩ := hxy
        rw [setB_same]
        exact ⟨fun _ => ⟨⟨KV a b', .bool v, clock⟩, by simp, rfl⟩, fun _ => rfl⟩
      · rw [setB_other hxy, hm.dom]
        constructor
        · rintro ⟨e, he, hk'⟩
          exact ⟨e, by simp [he], hk'⟩
        · rintro ⟨e, he, hk'⟩
          simp only [Array.toList_push, List.mem_append, List.mem_singleton] at he
          rcases he with he | rfl
          · exact ⟨e, he, hk'⟩
          · obtain ⟨rfl, rfl⟩ := KV_inj hk'
            exact absurd ⟨rfl, rfl⟩ hxy
    · by_cases hxy : a = x ∧ b' = y
      · obtain ⟨rfl, rfl⟩ := hxy
        rw [setB_same] at h
        cases h
      · rw [setB_other hxy] at h ⊢
        exact hm.off a b' h
    · obtain ⟨e, he, hk'⟩ := (hm.dom x y).1 hd
      exact absurd hk' (h2 e he)
  · have hj : es[j]? = some e0 := by simpa using h2
    have hjl : j < es.toList.length := (List.getElem?_eq_some_iff.1 h2).1
    have hm0 : e0 ∈ es.toList := List.mem_of_getElem? h2
    have hl' := modify_list (es := es) (fun e' => { e' with key := KV x y, val := .bool v }) h2
    have hkey : ∀ e', es[j]? = some e' → KV x y = e'.key := fun e' he' => by rw [hj] at he'; cases he'; exact h3.symm
    have hd0 : dm x y = true := (hm.dom x y).2 ⟨e0, hm0, h3⟩
    have who : ∀ e ∈ es.toList.set j { e0 with key := KV x y, val := .bool v }, e = { e0 with key := KV x y, val := .bool v } ∨ (e ∈ es.toList ∧ e.key ≠ KV x y) := fun e he => by
      obtain ⟨i, hi, ex⟩ := List.getElem_of_mem he
      rw [List.getElem_set] at ex
      split at ex
      · exact .inl ex.symm
      · rename_i hne
        have hi' : i < es.toList.length := by simpa using hi
        refine .inr ⟨ex ▸ List.getElem_mem hi', fun hek => hne ?_⟩
        have hp := ((stamped_iff es clock).1 hm.st).2.2
        rw [List.pairwise_iff_getElem] at hp
        obtain ⟨_, e0e⟩ := List.getElem?_eq_some_iff.1 h2
        rcases Nat.lt_trichotomy i j with hij | hij | hij
        · exact absurd (by rw [ex, hek, e0e, h3]) (hp i j hi' hjl hij)
        · exact hij.symm
        · exact absurd (by rw [ex, hek, e0e, h3]) (hp j i hjl hi' hij)
    have back : ∀ x0 ∈ es.toList, ∃ x1 ∈ es.toList.set j { e0 with key := KV x y, val := .bool v }, x0.born = x1.born ∧ x0.key = x1.key := fun x0 hx0 => by
      obtain ⟨i, hi, ex⟩ := List.getElem_of_mem hx0
      have hi' : i < (es.toList.set j { e0 with key := KV x y, val := .bool v }).length := by simpa using hi
      refine ⟨_, List.getElem_mem hi', ?_⟩
      rw [List.getElem_set]
      split
      · rename_i hji
        subst hji
        obtain ⟨_, e0e⟩ := List.getElem?_eq_some_iff.1 h2
        rw [← ex, e0e]
        exact ⟨rfl, h3⟩
      · rw [ex]; exact ⟨rfl, rfl⟩
    have forth : ∀ x1 ∈ es.toList.set j { e0 with key := KV x y, val := .bool v }, ∃ x0 ∈ es.toList, x0.born = x1.born ∧ x0.key = x1.key := fun x1 hx1 => by
      rcases who x1 hx1 with rfl | ⟨h, _⟩
      · exact ⟨e0, hm0, rfl, h3⟩
      · exact ⟨x1, h, rfl, rfl⟩
    refine ⟨es.modify j (fun e' => { e' with key := KV x y, val := .bool v }), clock, ?_, ⟨stamped_modify hm.st _ _ (fun _ _ => rfl) (fun e' _ he' => hkey e' he'), fun e he => ?_, fun a b' => ?_, fun a b' h => ?_⟩, fun _ => ⟨rfl, fun seen => ⟨?_, by rw [hl']; exact forth, by rw [hl']; exact back⟩⟩⟩
    · simp [Instr.mapUpdate, run_underlying ht, MapKept.run_getObj_map hb, hk.1.check w false hl, h1, hj, h3, hk.1.stays w hl, MapKept.run_setObj_map _ hb, Result.andThen, setBlock]
    · rw [hl'] at he
      rcases who e he with rfl | ⟨he', hne⟩
      · exact ⟨x, y, hx, hy, rfl, by rw [setB_same]⟩
      · obtain ⟨a, b', ha, hb', e1, e2⟩ := hm.ent e he'
        refine ⟨a, b', ha, hb', e1, ?_⟩
        rw [setB_other, e2]
        rintro ⟨rfl, rfl⟩
        exact hne e1
    · rw [hl']
      have hds : setB dm x y true a b' = dm a b' := by
        by_cases hxy : a = x ∧ b' = y
        · obtain ⟨rfl, rfl⟩ := hxy; rw [setB_same, hd0]
        · rw [setB_other hxy]
      rw [hds, hm.dom]
      constructor
      · rintro ⟨e, he, hk'⟩
        obtain ⟨e1, he1, _, h4⟩ := back e he
        exact ⟨e1, he1, h4.symm.trans hk'⟩
      · rintro ⟨e, he, hk'⟩
        obtain ⟨e1, he1, _, h4⟩ := forth e he
        exact ⟨e1, he1, h4.trans hk'⟩
    · by_cases hxy : a = x ∧ b' = y
      · obtain ⟨rfl, rfl⟩ := hxy
        rw [setB_same] at h
        cases h
      · rw [setB_other hxy] at h ⊢
        exact hm.off a b' h
    · have hsz : ∀ A : Array MapEntry, (leftOf A seen).size = (A.toList.filter fun e => !seen.contains e.born).length := fun A => by
        unfold leftOf
        rw [← Array.length_toList, Array.toList_filter]
      rw [hsz, hsz, hl']
      have hgen : ∀ (l : List MapEntry) (j : Nat), l[j]? = some e0 → ((l.set j { e0 with key := KV x y, val := .bool v }).filter fun e => !seen.contains e.born).length = (l.filter fun e => !seen.contains e.born).length := by
        intro l
        induction l with
        | nil => intro j h; simp at h
        | cons a l ih =>
          intro j h
          cases j with
          | zero =>
            simp at h
            subst h
            simp only [List.set_cons_zero, List.filter_cons]
            split <;> simp
          | succ j =>
            have := ih j (by simpa using h)
            rw [List.set_cons_succ, List.filter_cons, List.filter_cons]
            split
            · rw [List.length_cons, List.length_cons, this]
            · exact this
      exact hgen _ _ h2

theorem brel_put (hk : PairKey P K) {t : TypeId} (ht : P.underlying t = some (.map K E)) (h : BRel w b dm r) {x y : Int} (hx : InS x) (hy : InS y) (v : Bool) :
    ∃ w', (Instr.mapUpdate t (.map (some b)) (KV x y) (.bool v)).run P w = .ok () w' ∧ BRel w' b (setB dm x y true) (setB r x y v) ∧ w.grownBy w' (some b) ∧ w'.heap.size = w.heap.size := by
  obtain ⟨es, clock, hb, hm⟩ := h
  obtain ⟨es', clock', hrun, hm', _⟩ := run_put hk ht hb hm hx hy v
  exact ⟨_, hrun, ⟨es', clock', heap_setBlock_same hb _, hm'⟩, ⟨rfl, rfl, rfl, by simp [setBlock], fun i _ hi => heap_setBlock_other hb _ (fun e => hi (by rw [e]))⟩, by simp [setBlock]⟩

/-- A range over the map under way: lft tells the pairs that are still to come, cnt how many. -/
def BRng (w : World) (b q : Nat) (dm r lft : Int → Int → Bool) (cnt : Nat) : Prop :=
  ∃ es clock since seen c0, w.heap[b]? = some (.map es clock) ∧ BMap es clock dm r ∧ w.heap[q]? = some (.mapIter (some b) since seen c0) ∧ (∀ x ∈ es.toList, x.born < since) ∧ since ≤ c0 ∧ since ≤ clock ∧
    (leftOf es seen).size = cnt ∧ ∀ a b, lft a b = true ↔ ∃ x ∈ es.toList, x.key = KV a b ∧ seen.contains x.born = false

theorem BRng.rel {q cnt : Nat} {lft : Int → Int → Bool} (h : BRng w b q dm r lft cnt) : BRel w b dm r := by
  obtain ⟨es, clock, _, _, _, hb, hm, _⟩ := h
  exact ⟨es, clock, hb, hm⟩
theorem BRng.below {B q cnt : Nat} {lft : Int → Int → Bool} (h : BRng w b q dm r lft cnt) (hb : Below B w w') (hB : w.heap.size ≤ B) : BRng w' b q dm r lft cnt := by
  have h1 := h.rel.lt
  obtain ⟨es, clock, since, seen, c0, h2, h3, h4, rest⟩ := h
  have h5 := (Array.getElem?_eq_some_iff.1 h4).1
  exact ⟨es, clock, since, seen, c0, (hb.block b (by omega)).trans h2, h3, (hb.block q (by omega)).trans h4, rest⟩
theorem BRng.left {q cnt : Nat} {lft : Int → Int → Bool} (h : BRng w b q dm r lft cnt) : w.rangeLeft b q = cnt := by
  obtain ⟨es, clock, since, seen, c0, hb, hm, hr, _, _, _, hc, _⟩ := h
  simp only [World.rangeLeft, hb, hr]
  exact hc
theorem BRng.ltq {q cnt : Nat} {lft : Int → Int → Bool} (h : BRng w b q dm r lft cnt) : q < w.heap.size := by
  obtain ⟨es, clock, since, seen, c0, hb, hm, hr, _⟩ := h
  exact (Array.getElem?_eq_some_iff.1 hr).1

theorem brng_start {t : TypeId} (ht : P.underlying t = some (.map K E)) (h : BRel w b dm r) :
    ∃ w' cnt, (Instr.range t (.map (some b))).run P w = .ok (.pointer (some ⟨w.heap.size, 0, none⟩)) w' ∧ BRng w' b w.heap.size dm r dm cnt ∧ Below w.heap.size w w' ∧ w'.heap.size = w.heap.size + 1 := by
  have hlt := h.lt
  obtain ⟨es, clock, hb, hm⟩ := h
  refine ⟨_, (leftOf es #[]).size, run_range_map w t K E b es clock ht hb, ⟨es, clock, clock, #[], clock, ((MapKept.heap_alloc w _).2 b hlt).trans hb, hm, (MapKept.heap_alloc w _).1, ((stamped_iff es clock).1 hm.st).1, Nat.le_refl _, Nat.le_refl _, rfl, fun a b' => ?_⟩, (Below.refl _ _).alloc (Nat.le_refl _) _, by simp⟩
  rw [hm.dom]
  constructor
  · rintro ⟨x, hx, hk⟩; exact ⟨x, hx, hk, by simp⟩
  · rintro ⟨x, hx, hk, _⟩; exact ⟨x, hx, hk⟩

theorem brng_next {q cnt : Nat} {lft : Int → Int → Bool} (h : BRng w b q dm r lft cnt) (ty : TypeId) :
    ((∀ x y, lft x y = false) ∧ (Instr.next (.pointer (some ⟨q, 0, none⟩)) false ty).run P w = .ok (.tuple #[.bool false]) w) ∨
    ∃ x y w' cnt', InS x ∧ InS y ∧ lft x y = true ∧ dm x y = true ∧ (Instr.next (.pointer (some ⟨q, 0, none⟩)) false ty).run P w = .ok (.tuple #[.bool true, KV x y, .bool (r x y)]) w' ∧
      BRng w' b q dm r (setB lft x y false) cnt' ∧ cnt' < cnt ∧ w.grownBy w' (some q) ∧ w'.heap.size = w.heap.size ∧ (Instr.entry (.pointer (some ⟨q, 0, none⟩))).run P w' = .ok (.tuple #[KV x y, .bool (r x y)]) w' := by
  obtain ⟨es, clock, since, seen, c0, hb, hm, hr, hold, hsc, hsk, rfl, hl⟩ := h
  have hne : q ≠ b := by
    intro e
    rw [e, hb] at hr
    cases hr
  have hst := (stamped_iff es clock).1 hm.st
  rcases run_next_at (P := P) w ty q b since c0 seen es clock hr hb hold hsc with ⟨h0, hrun⟩ | ⟨e, he, w1, hal, hrun⟩
  · refine .inl ⟨fun x y => ?_, hrun⟩
    rw [Bool.eq_false_iff]
    intro hxy
    obtain ⟨e, he, _, hs⟩ := (hl x y).1 hxy
    rw [all_seen es seen h0 e he] at hs
    cases hs
  · obtain ⟨hem, hes⟩ := mem_left he
    obtain ⟨x, y, hx, hy, e1, e2⟩ := hm.ent e hem
    rw [e1, e2] at hrun
    have hr1 : w1.heap[q]? = some (.mapIter (some b) since seen c0) := by rcases hal with rfl | rfl <;> exact hr
    have hb1 : w1.heap[b]? = some (.map es clock) := by rcases hal with rfl | rfl <;> exact hb
    have hset := heap_set (o' := .mapIter (some b) since (seen.push e.born) clock) hr1
    have hb' : (setBlock w1 q (.mapIter (some b) since (seen.push e.born) clock)).heap[b]? = some (.map es clock) := (hset.2 b (fun e1 => hne e1.symm)).trans hb1
    have hent := run_entry_at (P := P) _ q b since seen es clock e hset.1 hb' hem hst.2.1
    rw [e1, e2] at hent
    refine .inr ⟨x, y, _, _, hx, hy, (hl x y).2 ⟨e, hem, e1, hes⟩, (hm.dom x y).2 ⟨e, hem, e1⟩, hrun, ⟨es, clock, since, seen.push e.born, clock, hb', hm, hset.1, hold, hsk, hsk, rfl, fun a b' => ?_⟩, left_shrinks es seen e he, ?_, ?_, hent⟩
    · by_cases hxy : a = x ∧ b' = y
      · obtain ⟨rfl, rfl⟩ := hxy
        rw [setB_same]
        constructor
        · intro h; cases h
        · rintro ⟨e', he', hk', hs'⟩
          exfalso
          have hee : e' = e := entry_eq_of_key hst.2.2 he' hem (hk'.trans e1.symm)
          subst hee
          rw [contains_push] at hs'
          simp at hs'
      · rw [setB_other hxy, hl]
        constructor
        · rintro ⟨e', he', hk', hs'⟩
          refine ⟨e', he', hk', ?_⟩
          rw [contains_push, hs']
          have : e'.born ≠ e.born := fun hbn => hxy (KV_inj (hk'.symm.trans ((congrArg MapEntry.key (born_inj hst.2.1 he' hem hbn)).trans e1)))
          simpa using this
        · rintro ⟨e', he', hk', hs'⟩
          refine ⟨e', he', hk', ?_⟩
          rw [contains_push] at hs'
          simp only [Bool.or_eq_false_iff] at hs'
          exact hs'.1
    · rcases hal with rfl | rfl <;> exact ⟨rfl, rfl, rfl, by simp [setBlock], fun i _ hi => hset.2 i (fun e1 => hi (by rw [e1]))⟩
    · rcases hal with rfl | rfl <;> simp [setBlock]

/-- A store at a pair that is there, while the range is under way. -/
theorem brng_put (hk : PairKey P K) {t : TypeId} (ht : P.underlying t = some (.map K E)) {q cnt : Nat} {lft : Int → Int → Bool} (h : BRng w b q dm r lft cnt) {x y : Int} (hx : InS x) (hy : InS y) (hd : dm x y = true) (v : Bool) :
    ∃ w', (Instr.mapUpdate t (.map (some b)) (KV x y) (.bool v)).run P w = .ok () w' ∧ BRng w' b q dm (setB r x y v) lft cnt ∧ w.grownBy w' (some b) ∧ w'.heap.size = w.heap.size := by
  obtain ⟨es, clock, since, seen, c0, hb, hm, hr, hold, hsc, hsk, rfl, hl⟩ := h
  have hne : q ≠ b := by
    intro e
    rw [e, hb] at hr
    cases hr
  obtain ⟨es', clock', hrun, hm', hkeep⟩ := run_put hk ht hb hm hx hy v
  obtain ⟨rfl, hkeep2⟩ := hkeep hd
  clear hkeep
  obtain ⟨hsz, forth, back⟩ := hkeep2 seen
  have hdm : setB dm x y true = dm := by
    funext a b'
    by_cases hxy : a = x ∧ b' = y
    · obtain ⟨rfl, rfl⟩ := hxy; rw [setB_same, hd]
    · rw [setB_other hxy]
  rw [hdm] at hm'
  refine ⟨_, hrun, ⟨es', clock', since, seen, c0, heap_setBlock_same hb _, hm', (heap_setBlock_other hb _ hne).trans hr, fun e he => ?_, hsc, hsk, hsz, fun a b' => ?_⟩, ⟨rfl, rfl, rfl, by simp [setBlock], fun i _ hi => heap_setBlock_other hb _ (fun e => hi (by rw [e]))⟩, by simp [setBlock]⟩
  · obtain ⟨e0, he0, h1, _⟩ := forth e he
    rw [← h1]
    exact hold e0 he0
  · rw [hl]
    constructor
    · rintro ⟨e, he, hk', hs⟩
      obtain ⟨e1, he1, h1, h2⟩ := back e he
      exact ⟨e1, he1, h2.symm.trans hk', by rw [← h1]; exact hs⟩
    · rintro ⟨e, he, hk', hs⟩
      obtain ⟨e1, he1, h1, h2⟩ := forth e he
      exact ⟨e1, he1, h2.trans hk', by rw [h1]; exact hs⟩
end

end Go.Proofs.YtdgnhfhaaghoaaaGreatDoor
