/-
  Union and its model, on lists of spans: pushing spans in the order of their lower bounds; a canonical list is known by its members.
-/
import Derived.Test.YmwhapCan
namespace Go.Proofs.Ymwhap

/-- The list out extended by the span (x, y): merged into the last one where it touches it, else appended. -/
def psh (l : List (Int × Int)) (x y : Int) : List (Int × Int) :=
  if l.length = 0 ∨ hi l (l.length - 1) < x then l ++ [(x, y)] else if hi l (l.length - 1) < y then l.set (l.length - 1) (lo l (l.length - 1), y) else l

theorem psh_length (l : List (Int × Int)) (x y : Int) : (psh l x y).length ≤ l.length + 1 := by
  unfold psh
  split
  · simp
  · split <;> simp
theorem psh_app {l : List (Int × Int)} {x y : Int} (h : l.length = 0 ∨ hi l (l.length - 1) < x) : psh l x y = l ++ [(x, y)] := by unfold psh; rw [if_pos h]
theorem psh_set {l : List (Int × Int)} {x y : Int} (h0 : ¬ l.length = 0) (h1 : ¬ hi l (l.length - 1) < x) (h2 : hi l (l.length - 1) < y) : psh l x y = l.set (l.length - 1) (lo l (l.length - 1), y) := by
  unfold psh
  rw [if_neg (by rintro (h | h) <;> contradiction), if_pos h2]
theorem psh_same {l : List (Int × Int)} {x y : Int} (h0 : ¬ l.length = 0) (h1 : ¬ hi l (l.length - 1) < x) (h2 : ¬ hi l (l.length - 1) < y) : psh l x y = l := by
  unfold psh
  rw [if_neg (by rintro (h | h) <;> contradiction), if_neg h2]

theorem last_of (l : List (Int × Int)) (q : Int × Int) : lo (l ++ [q]) ((l ++ [q]).length - 1) = q.1 ∧ hi (l ++ [q]) ((l ++ [q]).length - 1) = q.2 := by
  simp [lo, hi, List.getD]
theorem snoc_cases (l : List (Int × Int)) : l = [] ∨ ∃ m q, l = m ++ [q] := by
  by_cases h : l = []
  · exact .inl h
  · exact .inr ⟨l.dropLast, l.getLast h, (List.dropLast_concat_getLast h).symm⟩
theorem can_snoc {l : List (Int × Int)} {q : Int × Int} : Can (l ++ [q]) ↔ Can l ∧ q.1 < q.2 ∧ ∀ p ∈ l, p.2 < q.1 := by
  induction l with
  | nil =>
    constructor
    · intro h
      exact ⟨trivial, h.1, fun p hp => by cases hp⟩
    · rintro ⟨_, h, _⟩
      exact ⟨h, fun p hp => (by cases hp), trivial⟩
  | cons p r ih =>
    constructor
    · intro h
      obtain ⟨h1, h2, h3⟩ := ih.1 h.2.2
      refine ⟨⟨h.1, fun q hq => h.2.1 q (by simp [hq]), h1⟩, h2, fun u hu => ?_⟩
      rcases List.mem_cons.1 hu with rfl | hu
      · exact h.2.1 q (by simp)
      · exact h3 u hu
    · rintro ⟨h1, h2, h3⟩
      refine ⟨h1.1, fun u hu => ?_, ih.2 ⟨h1.2.2, h2, fun u hu => h3 u (by simp [hu])⟩⟩
      rcases List.mem_append.1 hu with hu | hu
      · exact h1.2.1 u hu
      · simp at hu
        subst hu
        exact h3 p (by simp)
/-- WHAT A PUSH DOES. -/
theorem psh_ok {l : List (Int × Int)} {x y : Int} (hc : Can l) (hlow : ∀ q ∈ l, q.1 ≤ x) (hxy : x < y) :
    Can (psh l x y) ∧ (∀ z, Mem (psh l x y) z ↔ Mem l z ∨ (x ≤ z ∧ z < y)) ∧ ∀ q ∈ psh l x y, q.1 ≤ x := by
  rcases snoc_cases l with rfl | ⟨m, q, rfl⟩
  · rw [psh_app (.inl rfl)]
    refine ⟨⟨hxy, fun q hq => (by cases hq), trivial⟩, fun z => ?_, fun q hq => ?_⟩
    · simp [mem_cons, mem_nil]
    · simp at hq
      subst hq
      exact Int.le_refl _
  · obtain ⟨h1, h2, h3⟩ := can_snoc.1 hc
    obtain ⟨el, eh⟩ := last_of m q
    have hq := hlow q (by simp)
    by_cases ha : q.2 < x
    · rw [psh_app (.inr (by rw [eh]; exact ha))]
      refine ⟨can_snoc.2 ⟨hc, hxy, fun p hp => ?_⟩, fun z => ?_, fun p hp => ?_⟩
      · rcases List.mem_append.1 hp with hp | hp
        · have := h3 p hp
          simp only
          omega
        · simp at hp
          subst hp
          exact ha
      · rw [mem_append (m ++ [q])]
        simp [mem_cons, mem_nil]
      · rcases List.mem_append.1 hp with hp | hp
        · exact hlow p hp
        · simp at hp
          subst hp
          exact Int.le_refl _
    · by_cases hb : q.2 < y
      · have e : (m ++ [q]).set ((m ++ [q]).length - 1) (q.1, y) = m ++ [(q.1, y)] := by simp
        rw [psh_set (by simp) (by rw [eh]; exact ha) (by rw [eh]; exact hb), el, e]
        refine ⟨can_snoc.2 ⟨h1, by simp only; omega, h3⟩, fun z => ?_, fun p hp => ?_⟩
        · rw [mem_append, mem_append, mem_cons, mem_cons]
          simp only [mem_nil, or_false]
          constructor
          · rintro (h | h)
            · exact .inl (.inl h)
            · by_cases hz : x ≤ z
              · exact .inr ⟨hz, h.2⟩
              · exact .inl (.inr ⟨h.1, by omega⟩)
          · rintro ((h | h) | h)
            · exact .inl h
            · exact .inr ⟨h.1, by omega⟩
            · exact .inr ⟨by omega, h.2⟩
        · rcases List.mem_append.1 hp with hp | hp
          · exact hlow p (by simp [hp])
          · simp at hp
            subst hp
            exact hq
      · rw [psh_same (by simp) (by rw [eh]; exact ha) (by rw [eh]; exact hb)]
        refine ⟨hc, fun z => ?_, hlow⟩
        constructor
        · exact .inl
        · rintro (h | h)
          · exact h
          · rw [mem_append, mem_cons]
            exact .inr (.inl ⟨by omega, by omega⟩)

/-! ### A canonical list is known by its members -/
theorem mem_ge {p : Int × Int} {r : List (Int × Int)} (hc : Can (p :: r)) {x : Int} (h : Mem (p :: r) x) : p.1 ≤ x := by
  rcases (mem_cons p r x).1 h with h | ⟨q, hq, h⟩
  · exact h.1
  · have := hc.2.1 q hq
    have := hc.1
    omega
theorem mem_rest {p : Int × Int} {r : List (Int × Int)} (hc : Can (p :: r)) {x : Int} (h : Mem r x) : p.2 < x := by
  obtain ⟨q, hq, h⟩ := h
  have := hc.2.1 q hq
  omega
theorem can_unique : ∀ (l m : List (Int × Int)), Can l → Can m → (∀ x, Mem l x ↔ Mem m x) → l = m
  | [], [], _, _, _ => rfl
  | [], q :: s, _, hm, h => by
    have := (h q.1).2 ((mem_cons q s q.1).2 (.inl ⟨Int.le_refl _, hm.1⟩))
    exact absurd this (mem_nil _)
  | p :: r, [], hl, _, h => by
    have := (h p.1).1 ((mem_cons p r p.1).2 (.inl ⟨Int.le_refl _, hl.1⟩))
    exact absurd this (mem_nil _)
  | p :: r, q :: s, hl, hm, h => by
    have a1 : q.1 ≤ p.1 := mem_ge hm ((h p.1).1 ((mem_cons p r p.1).2 (.inl ⟨Int.le_refl _, hl.1⟩)))
    have a2 : p.1 ≤ q.1 := mem_ge hl ((h q.1).2 ((mem_cons q s q.1).2 (.inl ⟨Int.le_refl _, hm.1⟩)))
    have e1 : p.1 = q.1 := by omega
    have hl1 := hl.1
    have hm1 := hm.1
    have e2 : p.2 = q.2 := by
      by_cases c1 : p.2 < q.2
      · have := (h p.2).2 ((mem_cons q s p.2).2 (.inl ⟨by omega, c1⟩))
        rcases (mem_cons p r p.2).1 this with h' | h'
        · omega
        · have := mem_rest hl h'; omega
      · by_cases c2 : q.2 < p.2
        · have := (h q.2).1 ((mem_cons p r q.2).2 (.inl ⟨by omega, c2⟩))
          rcases (mem_cons q s q.2).1 this with h' | h'
          · omega
          · have := mem_rest hm h'; omega
        · omega
    have e3 : r = s := by
      refine can_unique r s hl.2.2 hm.2.2 fun x => ⟨fun hx => ?_, fun hx => ?_⟩
      · have h1 := mem_rest hl hx
        rcases (mem_cons q s x).1 ((h x).1 ((mem_cons p r x).2 (.inr hx))) with h' | h'
        · omega
        · exact h'
      · have h1 := mem_rest hm hx
        rcases (mem_cons p r x).1 ((h x).2 ((mem_cons q s x).2 (.inr hx))) with h' | h'
        · omega
        · exact h'
    rw [e3, show p = q from Prod.ext e1 e2]

/-! ### The mapped spans -/
/-- Bounds in order; an empty span widened by one; [max, max) dropped. -/
def nrm (a b : Int) : Option (Int × Int) :=
  if b < a then some (b, a) else if a = b then (if b = 9223372036854775807 then none else some (a, b + 1)) else some (a, b)
def nl (S : List (Int × Int)) : Nat → List (Int × Int)
  | 0 => []
  | k + 1 => nl S k ++ (nrm (lo S k) (hi S k)).toList
/-- The set built from the first k of them. -/
def bu (S : List (Int × Int)) : Nat → List (Int × Int)
  | 0 => []
  | k + 1 => match nrm (lo S k) (hi S k) with
    | some q => addL (bu S k) q.1 q.2
    | none => bu S k
theorem nrm_lt {a b : Int} {q : Int × Int} (h : nrm a b = some q) : q.1 < q.2 := by
  unfold nrm at h
  split at h
  · simp at h; subst h; simp only; omega
  · split at h
    · split at h
      · simp at h
      · simp at h; subst h; simp only; omega
    · simp at h; subst h; simp only; omega
theorem bu_some {S : List (Int × Int)} {k : Nat} {q : Int × Int} (h : nrm (lo S k) (hi S k) = some q) : bu S (k + 1) = addL (bu S k) q.1 q.2 := by rw [bu, h]
theorem bu_none {S : List (Int × Int)} {k : Nat} (h : nrm (lo S k) (hi S k) = none) : bu S (k + 1) = bu S k := by rw [bu, h]
theorem nl_some {S : List (Int × Int)} {k : Nat} {q : Int × Int} (h : nrm (lo S k) (hi S k) = some q) : nl S (k + 1) = nl S k ++ [q] := by rw [nl, h]; rfl
theorem nl_none {S : List (Int × Int)} {k : Nat} (h : nrm (lo S k) (hi S k) = none) : nl S (k + 1) = nl S k := by rw [nl, h]; simp
theorem bu_can (S : List (Int × Int)) : ∀ k, Can (bu S k)
  | 0 => trivial
  | k + 1 => by
    cases h : nrm (lo S k) (hi S k) with
    | some q => rw [bu_some h]; exact addL_can (bu_can S k) _ _
    | none => rw [bu_none h]; exact bu_can S k
theorem bu_len (S : List (Int × Int)) : ∀ k, (bu S k).length ≤ k
  | 0 => by simp [bu]
  | k + 1 => by
    have ih := bu_len S k
    cases h : nrm (lo S k) (hi S k) with
    | some q => rw [bu_some h]; have := addL_length (bu S k) q.1 q.2; omega
    | none => rw [bu_none h]; omega
theorem nl_len (S : List (Int × Int)) : ∀ k, (nl S k).length ≤ k
  | 0 => by simp [nl]
  | k + 1 => by
    have ih := nl_len S k
    cases h : nrm (lo S k) (hi S k) with
    | some q => rw [nl_some h]; simp; omega
    | none => rw [nl_none h]; omega
theorem bu_mem (S : List (Int × Int)) (x : Int) : ∀ k, Mem (bu S k) x ↔ Mem (nl S k) x
  | 0 => by simp [bu, nl]
  | k + 1 => by
    have ih := bu_mem S x k
    cases h : nrm (lo S k) (hi S k) with
    | some q => rw [bu_some h, nl_some h, addL_mem (bu_can S k), mem_append, ih, mem_cons]; simp [mem_nil]
    | none => rw [bu_none h, nl_none h]; exact ih
theorem nl_ne (S : List (Int × Int)) : ∀ k, ∀ q ∈ nl S k, q.1 < q.2
  | 0, q, hq => by simp [nl] at hq
  | k + 1, q, hq => by
    cases h : nrm (lo S k) (hi S k) with
    | some u =>
      rw [nl_some h] at hq
      rcases List.mem_append.1 hq with hq | hq
      · exact nl_ne S k q hq
      · simp at hq; subst hq; exact nrm_lt h
    | none => rw [nl_none h] at hq; exact nl_ne S k q hq
end Go.Proofs.Ymwhap
