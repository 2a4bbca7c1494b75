/-
  Canonical lists of spans: what Add and Remove make of them, and of their members.
-/
import Derived.Test.YmwhapRemPlain
namespace Go.Proofs.Ymwhap

/-- Canonical: each span is not empty and ends strictly before all that follow begin. -/
def Can : List (Int × Int) → Prop
  | [] => True
  | p :: r => p.1 < p.2 ∧ (∀ q ∈ r, p.2 < q.1) ∧ Can r
/-- Membership. -/
def Mem (l : List (Int × Int)) (x : Int) : Prop := ∃ p ∈ l, p.1 ≤ x ∧ x < p.2

theorem mem_nil (x : Int) : ¬ Mem [] x := by
  rintro ⟨p, h, _⟩
  cases h
theorem mem_cons (p : Int × Int) (r : List (Int × Int)) (x : Int) : Mem (p :: r) x ↔ (p.1 ≤ x ∧ x < p.2) ∨ Mem r x := by
  unfold Mem
  constructor
  · rintro ⟨q, h, h1⟩
    rcases List.mem_cons.1 h with rfl | h
    · exact .inl h1
    · exact .inr ⟨q, h, h1⟩
  · rintro (h | ⟨q, h, h1⟩)
    · exact ⟨p, by simp, h⟩
    · exact ⟨q, by simp [h], h1⟩
theorem mem_append (l m : List (Int × Int)) (x : Int) : Mem (l ++ m) x ↔ Mem l x ∨ Mem m x := by
  induction l with
  | nil => simp [mem_nil]
  | cons p r ih => rw [List.cons_append, mem_cons, mem_cons, ih, or_assoc]
theorem can_ne {l : List (Int × Int)} (h : Can l) : ∀ q ∈ l, q.1 < q.2 := by
  induction l with
  | nil => intro q hq; cases hq
  | cons p r ih =>
    intro q hq
    rcases List.mem_cons.1 hq with rfl | hq
    · exact h.1
    · exact ih h.2.2 q hq

/-! ### Add -/
theorem addAbs_low (l : List (Int × Int)) : ∀ (a b c : Int), c < a → (∀ q ∈ l, c < q.1) → ∀ q ∈ addAbs l a b, c < q.1 := by
  induction l with
  | nil => intro a b c hc _ q hq; simp [addAbs] at hq; subst hq; exact hc
  | cons p r ih =>
    intro a b c hc hl q hq
    rw [addAbs] at hq
    split at hq
    · refine ih _ _ c ?_ (fun q hq => hl q (by simp [hq])) q hq
      have := hl p (by simp)
      split <;> omega
    · rcases List.mem_cons.1 hq with rfl | hq
      · exact hc
      · exact hl q hq
theorem addAbs_can (l : List (Int × Int)) : ∀ (a b : Int), Can l → a < b → Can (addAbs l a b) := by
  induction l with
  | nil => intro a b _ hab; exact ⟨hab, fun q hq => (by cases hq), trivial⟩
  | cons p r ih =>
    intro a b hc hab
    rw [addAbs]
    split
    · exact ih _ _ hc.2.2 (by split <;> split <;> omega)
    · refine ⟨hab, fun q hq => ?_, hc⟩
      rcases List.mem_cons.1 hq with rfl | hq
      · simp only; omega
      · have := hc.2.1 q hq
        have := hc.1
        simp only
        omega
theorem addAbs_mem (l : List (Int × Int)) : ∀ (a b : Int), Can l → a < b → (∀ q ∈ l, a ≤ q.2) → ∀ x, Mem (addAbs l a b) x ↔ Mem l x ∨ (a ≤ x ∧ x < b) := by
  induction l with
  | nil => intro a b _ _ _ x; simp [addAbs, mem_cons, mem_nil]
  | cons p r ih =>
    intro a b hc hab hq x
    have h1 := hq p (by simp)
    have h2 := hc.1
    rw [addAbs]
    split
    · rw [ih _ _ hc.2.2 (by split <;> split <;> omega) (fun q hq' => by have := hq q (by simp [hq']); split <;> omega) x, mem_cons]
      constructor
      · rintro (h | h)
        · exact .inl (.inr h)
        · by_cases hx : a ≤ x ∧ x < b
          · exact .inr hx
          · left; left; split at h <;> split at h <;> omega
      · rintro ((h | h) | h)
        · right; split <;> split <;> omega
        · exact .inl h
        · right; split <;> split <;> omega
    · rw [mem_cons]
      exact or_comm
theorem addN_low (a b : Int) (l : List (Int × Int)) : ∀ (c : Int), c < a → (∀ q ∈ l, c < q.1) → ∀ q ∈ addN a b l, c < q.1 := by
  induction l with
  | nil => intro c hc _ q hq; simp [addN] at hq; subst hq; exact hc
  | cons p r ih =>
    intro c hc hl q hq
    rw [addN] at hq
    split at hq
    · rcases List.mem_cons.1 hq with rfl | hq
      · exact hl q (by simp)
      · exact ih c hc (fun q hq => hl q (by simp [hq])) q hq
    · exact addAbs_low _ _ _ c hc hl q hq
theorem addN_can (a b : Int) (hab : a < b) (l : List (Int × Int)) (hc : Can l) : Can (addN a b l) := by
  induction l with
  | nil => exact ⟨hab, fun q hq => (by cases hq), trivial⟩
  | cons p r ih =>
    rw [addN]
    split
    · exact ⟨hc.1, addN_low a b r p.2 ‹_› hc.2.1, ih hc.2.2⟩
    · exact addAbs_can _ _ _ hc hab
theorem addN_mem (a b : Int) (hab : a < b) (l : List (Int × Int)) (hc : Can l) (x : Int) : Mem (addN a b l) x ↔ Mem l x ∨ (a ≤ x ∧ x < b) := by
  induction l with
  | nil => simp [addN, mem_cons, mem_nil]
  | cons p r ih =>
    rw [addN]
    split
    · rw [mem_cons, mem_cons, ih hc.2.2, or_assoc]
    · rename_i h
      refine addAbs_mem _ _ _ hc hab (fun q hq => ?_) x
      rcases List.mem_cons.1 hq with rfl | hq
      · omega
      · have := hc.2.1 q hq
        have := can_ne hc.2.2 q hq
        omega
theorem addL_can {l : List (Int × Int)} (hc : Can l) (a b : Int) : Can (addL l a b) := by
  unfold addL
  split
  · exact hc
  · exact addN_can a b (by omega) l hc
theorem addL_mem {l : List (Int × Int)} (hc : Can l) (a b x : Int) : Mem (addL l a b) x ↔ Mem l x ∨ (a ≤ x ∧ x < b) := by
  unfold addL
  split
  · constructor
    · exact .inl
    · rintro (h | h)
      · exact h
      · omega
  · exact addN_mem a b (by omega) l hc x

/-! ### Remove -/
theorem remA_in {a x y : Int} {q : Int × Int} (h : q ∈ remA a x y) (hxy : x < y) : q.1 = x ∧ q.1 < q.2 ∧ q.2 ≤ a ∧ q.2 ≤ y := by
  unfold remA at h
  split at h
  · simp at h
    subst h
    refine ⟨?_, ?_, ?_, ?_⟩ <;> simp only <;> (try split) <;> omega
  · simp at h
theorem remB_in {b x y : Int} {q : Int × Int} (h : q ∈ remB b x y) (hxy : x < y) : q.2 = y ∧ q.1 < q.2 ∧ b ≤ q.1 ∧ x ≤ q.1 := by
  unfold remB at h
  split at h
  · simp at h
    subst h
    refine ⟨?_, ?_, ?_, ?_⟩ <;> simp only <;> (try split) <;> omega
  · simp at h
theorem can_append {l m : List (Int × Int)} (h1 : Can l) (h2 : Can m) (h : ∀ p ∈ l, ∀ q ∈ m, p.2 < q.1) : Can (l ++ m) := by
  induction l with
  | nil => exact h2
  | cons p r ih =>
    refine ⟨h1.1, fun q hq => ?_, ih h1.2.2 (fun p' hp' q hq => h p' (by simp [hp']) q hq)⟩
    rcases List.mem_append.1 hq with hq | hq
    · exact h1.2.1 q hq
    · exact h p (by simp) q hq
theorem remA_can (a x y : Int) (hxy : x < y) : Can (remA a x y) := by
  unfold remA
  split
  · refine ⟨?_, fun q hq => (by cases hq), trivial⟩
    simp only
    split <;> omega
  · trivial
theorem remB_can (b x y : Int) (hxy : x < y) : Can (remB b x y) := by
  unfold remB
  split
  · refine ⟨?_, fun q hq => (by cases hq), trivial⟩
    simp only
    split <;> omega
  · trivial
theorem remN_low (a b : Int) (l : List (Int × Int)) (hc : Can l) (c : Int) (hl : ∀ q ∈ l, c < q.1) : ∀ q ∈ remN a b l, c < q.1 := by
  induction l with
  | nil => intro q hq; simp [remN] at hq
  | cons p r ih =>
    intro q hq
    have h := hl p (by simp)
    rw [remN, List.mem_append, List.mem_append] at hq
    rcases hq with hq | hq | hq
    · have := remA_in hq hc.1; omega
    · have := remB_in hq hc.1; omega
    · exact ih hc.2.2 (fun q hq => hl q (by simp [hq])) q hq
theorem remN_can (a b : Int) (hab : a < b) (l : List (Int × Int)) (hc : Can l) : Can (remN a b l) := by
  induction l with
  | nil => trivial
  | cons p r ih =>
    have hlow := remN_low a b r hc.2.2 p.2 hc.2.1
    rw [remN]
    refine can_append (remA_can a _ _ hc.1) (can_append (remB_can b _ _ hc.1) (ih hc.2.2) ?_) ?_
    · intro u hu q hq
      have := remB_in hu hc.1
      have := hlow q hq
      omega
    · intro u hu q hq
      have h1 := remA_in hu hc.1
      rcases List.mem_append.1 hq with hq | hq
      · have := remB_in hq hc.1; omega
      · have := hlow q hq; omega
theorem remA_mem (a x y z : Int) : Mem (remA a x y) z ↔ x ≤ z ∧ z < y ∧ z < a := by
  unfold remA
  split
  · rw [mem_cons]
    simp only [mem_nil, or_false]
    split <;> omega
  · simp only [mem_nil, false_iff]
    omega
theorem remB_mem (b x y z : Int) : Mem (remB b x y) z ↔ x ≤ z ∧ z < y ∧ b ≤ z := by
  unfold remB
  split
  · rw [mem_cons]
    simp only [mem_nil, or_false]
    split <;> omega
  · simp only [mem_nil, false_iff]
    omega
theorem remN_mem (a b : Int) (_hab : a < b) (l : List (Int × Int)) (x : Int) : Mem (remN a b l) x ↔ Mem l x ∧ ¬ (a ≤ x ∧ x < b) := by
  induction l with
  | nil => simp [remN, mem_nil]
  | cons p r ih =>
    rw [remN, mem_append, mem_append, ih, mem_cons, remA_mem, remB_mem]
    constructor
    · rintro (h | h | h)
      · exact ⟨.inl ⟨h.1, h.2.1⟩, by omega⟩
      · exact ⟨.inl ⟨h.1, h.2.1⟩, by omega⟩
      · exact ⟨.inr h.1, h.2⟩
    · rintro ⟨h | h, h'⟩
      · by_cases hx : x < a
        · exact .inl ⟨h.1, h.2, hx⟩
        · exact .inr (.inl ⟨h.1, h.2, by omega⟩)
      · exact .inr (.inr ⟨h, h'⟩)
theorem remN_len_right (a b : Int) (l : List (Int × Int)) (h : ∀ q ∈ l, a ≤ q.1) : (remN a b l).length ≤ l.length := by
  induction l with
  | nil => simp [remN]
  | cons p r ih =>
    have h1 := h p (by simp)
    have h2 := ih (fun q hq => h q (by simp [hq]))
    have h3 := remB_length b p.1 p.2
    rw [remN, remA_no (by omega)]
    simp only [List.nil_append, List.length_append, List.length_cons]
    omega
theorem remN_len (a b : Int) (hab : a < b) (l : List (Int × Int)) (hc : Can l) : (remN a b l).length ≤ l.length + 1 := by
  induction l with
  | nil => simp [remN]
  | cons p r ih =>
    have h1 := remA_length a p.1 p.2
    have h2 := remB_length b p.1 p.2
    have h3 := ih hc.2.2
    rw [remN]
    simp only [List.length_append, List.length_cons]
    by_cases hx : p.1 < a
    · by_cases hy : b < p.2
      · have h4 := remN_len_right a b r (fun q hq => by have := hc.2.1 q hq; omega)
        omega
      · rw [remB_no hy]
        simp only [List.length_nil]
        omega
    · rw [remA_no hx]
      simp only [List.length_nil]
      omega
theorem remL_can {l : List (Int × Int)} (hc : Can l) (a b : Int) : Can (remL l a b) := by
  unfold remL
  split
  · exact hc
  · exact remN_can a b (by omega) l hc
theorem remL_mem (l : List (Int × Int)) (a b x : Int) : Mem (remL l a b) x ↔ Mem l x ∧ ¬ (a ≤ x ∧ x < b) := by
  unfold remL
  split
  · constructor
    · exact fun h => ⟨h, by omega⟩
    · exact fun h => h.1
  · exact remN_mem a b (by omega) l x
theorem remL_len {l : List (Int × Int)} (hc : Can l) (a b : Int) : (remL l a b).length ≤ l.length + 1 := by
  unfold remL
  split
  · omega
  · exact remN_len a b (by omega) l hc

/-! ### By index -/
theorem lo_mem {l : List (Int × Int)} {k : Nat} (h : k < l.length) : (lo l k, hi l k) ∈ l := by
  have e : (lo l k, hi l k) = l[k] := by simp [lo, hi, List.getD, h]
  rw [e]
  exact List.getElem_mem h
theorem mem_iff (l : List (Int × Int)) (x : Int) : Mem l x ↔ ∃ k, k < l.length ∧ lo l k ≤ x ∧ x < hi l k := by
  constructor
  · rintro ⟨p, hp, h⟩
    obtain ⟨k, hk, rfl⟩ := List.getElem_of_mem hp
    exact ⟨k, hk, by simpa [lo, hi, List.getD, hk] using h⟩
  · rintro ⟨k, hk, h⟩
    exact ⟨_, lo_mem hk, h⟩
theorem can_lt {l : List (Int × Int)} (hc : Can l) {k : Nat} (h : k < l.length) : lo l k < hi l k := can_ne hc _ (lo_mem h)
theorem can_apart {l : List (Int × Int)} (hc : Can l) : ∀ {j k : Nat}, j < k → k < l.length → hi l j < lo l k := by
  induction l with
  | nil => intro j k _ h; simp at h
  | cons p r ih =>
    intro j k hjk hk
    match j, k, hjk with
    | 0, k + 1, _ =>
      have := hc.2.1 _ (lo_mem (l := r) (k := k) (by simpa using hk))
      simpa [lo, hi] using this
    | j + 1, k + 1, h =>
      have := ih hc.2.2 (j := j) (k := k) (by omega) (by simpa using hk)
      simpa [lo, hi] using this
end Go.Proofs.Ymwhap
