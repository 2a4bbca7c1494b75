/-
  Insertion sort by exchanges, on lists of spans: what holds between two rounds.
-/
import Derived.Test.YmwhapUniPlain
namespace Go.Proofs.Ymwhap

/-- The first n spans are in the order of their lower bounds. -/
def Srt (L : List (Int × Int)) (n : Nat) : Prop := ∀ a b, a < b → b < n → lo L a ≤ lo L b
/-- All but the k-th of the first i + 1 are in order, and the k-th is not above those behind it. -/
def Ins (L : List (Int × Int)) (i k : Nat) : Prop := (∀ a b, a < b → b ≤ i → a ≠ k → b ≠ k → lo L a ≤ lo L b) ∧ ∀ b, k < b → b ≤ i → lo L k ≤ lo L b
/-- Two neighbours exchanged. -/
def swp (L : List (Int × Int)) (m : Nat) : List (Int × Int) := (L.set (m + 1) (lo L m, hi L m)).set m (lo L (m + 1), hi L (m + 1))

theorem at_eq {L : List (Int × Int)} {k : Nat} (h : k < L.length) : (lo L k, hi L k) = L[k] := by simp [lo, hi, List.getD, h]
theorem swp_length (L : List (Int × Int)) (m : Nat) : (swp L m).length = L.length := by simp [swp]
theorem swp_lo {L : List (Int × Int)} {m : Nat} (h : m + 1 < L.length) (j : Nat) : lo (swp L m) j = if j = m then lo L (m + 1) else if j = m + 1 then lo L m else lo L j := by
  have hm : m < L.length := by omega
  by_cases h1 : j = m
  · subst h1
    simp [swp, lo, List.getD, hm]
  · by_cases h2 : j = m + 1
    · subst h2
      simp [swp, lo, List.getD, h]
    · rw [if_neg h1, if_neg h2]
      simp [swp, lo, List.getD, Ne.symm h1, Ne.symm h2]
theorem split_two {L : List (Int × Int)} {m : Nat} (h : m + 1 < L.length) : L = L.take m ++ (lo L m, hi L m) :: (lo L (m + 1), hi L (m + 1)) :: L.drop (m + 2) := by
  rw [← drop_cons L (m + 1) h, ← drop_cons L m (by omega), List.take_append_drop]
theorem swp_eq {L : List (Int × Int)} {m : Nat} (h : m + 1 < L.length) : swp L m = L.take m ++ (lo L (m + 1), hi L (m + 1)) :: (lo L m, hi L m) :: L.drop (m + 2) := by
  have hl : (L.take m).length = m := by simp; omega
  unfold swp
  generalize hA : (lo L m, hi L m) = A
  generalize hB : (lo L (m + 1), hi L (m + 1)) = B
  have e := split_two h
  rw [hA, hB] at e
  generalize L.take m = T at *
  generalize L.drop (m + 2) = D at *
  rw [e]
  subst hl
  simp
theorem swp_perm {L : List (Int × Int)} {m : Nat} (h : m + 1 < L.length) : (swp L m).Perm L := by
  have e := split_two h
  rw [swp_eq h]
  generalize (lo L m, hi L m) = A at *
  generalize (lo L (m + 1), hi L (m + 1)) = B at *
  generalize L.take m = T at *
  generalize L.drop (m + 2) = D at *
  subst e
  exact List.Perm.append_left T (List.Perm.swap A B D)

theorem ins_start {L : List (Int × Int)} {i : Nat} (h : Srt L i) : Ins L i i :=
  ⟨fun a b h1 h2 _ h4 => h a b h1 (by omega), fun b h1 h2 => by omega⟩
theorem ins_step {L : List (Int × Int)} {i m : Nat} (hi' : i < L.length) (hm : m + 1 ≤ i) (h : Ins L i (m + 1)) (hgt : lo L (m + 1) < lo L m) : Ins (swp L m) i m := by
  obtain ⟨h1, h2⟩ := h
  have hml : m + 1 < L.length := by omega
  refine ⟨fun a b hab hb ha hb' => ?_, fun b hb hbi => ?_⟩
  · rw [swp_lo hml, swp_lo hml, if_neg ha, if_neg hb']
    by_cases ea : a = m + 1
    · rw [if_pos ea, if_neg (by omega)]
      exact h1 m b (by omega) hb (by omega) (by omega)
    · rw [if_neg ea]
      by_cases eb : b = m + 1
      · rw [if_pos eb]
        exact h1 a m (by omega) (by omega) (by omega) (by omega)
      · rw [if_neg eb]
        exact h1 a b hab hb ea eb
  · rw [swp_lo hml, swp_lo hml, if_pos rfl, if_neg (by omega)]
    by_cases eb : b = m + 1
    · rw [if_pos eb]
      omega
    · rw [if_neg eb]
      exact h2 b (by omega) hbi
theorem ins_end {L : List (Int × Int)} {i k : Nat} (h : Ins L i k) (hk : k = 0 ∨ ∃ m, k = m + 1 ∧ lo L m ≤ lo L (m + 1)) (hki : k ≤ i) : Srt L (i + 1) := by
  obtain ⟨h1, h2⟩ := h
  intro a b hab hb
  by_cases ea : a = k
  · rw [ea]
    exact h2 b (by omega) (by omega)
  · by_cases eb : b = k
    · rcases hk with hk | ⟨m, hk, hm⟩
      · omega
      · subst eb hk
        by_cases e : a = m
        · rw [e]; exact hm
        · have := h1 a m (by omega) (by omega) (by omega) (by omega)
          omega
    · exact h1 a b hab (by omega) ea eb
theorem srt_one (L : List (Int × Int)) : Srt L 1 := fun a b h1 h2 => by omega
theorem mem_perm {L M : List (Int × Int)} (h : L.Perm M) (z : Int) : Mem L z ↔ Mem M z := by
  unfold Mem
  constructor
  · rintro ⟨p, hp, h'⟩
    exact ⟨p, h.mem_iff.1 hp, h'⟩
  · rintro ⟨p, hp, h'⟩
    exact ⟨p, h.mem_iff.2 hp, h'⟩

/-! ### The merging loop -/
/-- What holds of exp when j spans of L have been pushed. -/
def MI (L : List (Int × Int)) (j : Nat) (out : List (Int × Int)) : Prop := Can out ∧ (∀ z, Mem out z ↔ Mem (L.take j) z) ∧ (∀ q ∈ out, j < L.length → q.1 ≤ lo L j) ∧ out.length ≤ j
theorem mi_start (L : List (Int × Int)) : MI L 0 [] := ⟨trivial, fun z => by simp, fun q hq => (by cases hq), Nat.zero_le _⟩
theorem mi_step {L : List (Int × Int)} {j : Nat} {out : List (Int × Int)} (hs : Srt L L.length) (hne : ∀ q ∈ L, q.1 < q.2) (h : MI L j out) (hj : j < L.length) : MI L (j + 1) (psh out (lo L j) (hi L j)) := by
  obtain ⟨h1, h2, h3, h4⟩ := h
  have hlt : lo L j < hi L j := hne _ (lo_mem hj)
  obtain ⟨p1, p2, p3⟩ := psh_ok h1 (fun q hq => h3 q hq hj) hlt
  refine ⟨p1, fun z => ?_, fun q hq h => ?_, by have := psh_length out (lo L j) (hi L j); omega⟩
  · rw [p2 z, h2 z, take_snoc' L j hj, mem_append, mem_cons]
    simp [mem_nil]
  · have := p3 q hq
    have := hs j (j + 1) (by omega) h
    omega
theorem mi_end {L : List (Int × Int)} {j : Nat} {out : List (Int × Int)} (h : MI L j out) (hj : ¬ j < L.length) : ∀ z, Mem out z ↔ Mem L z := by
  intro z
  rw [h.2.1 z, List.take_of_length_le (by omega)]
end Go.Proofs.Ymwhap
