/-
  A script of Add and Remove steps: the set that it builds, and the membership of one value, replayed.
-/
import Derived.Test.YmwhapFind
import Derived.Test.YmwhapOpen
namespace Go.Proofs.Ymwhap

/-- The set after k steps. -/
def bld (O : List Int) (P : List (Int × Int)) : Nat → List (Int × Int)
  | 0 => []
  | k + 1 => if opAt O k % 2 = 0 then addL (bld O P k) (lo P k) (hi P k) else remL (bld O P k) (lo P k) (hi P k)
/-- Whether x is a member after k steps, replayed on x alone. -/
def want (O : List Int) (P : List (Int × Int)) (x : Int) : Nat → Bool
  | 0 => false
  | k + 1 => if lo P k ≤ x ∧ x < hi P k then decide (opAt O k % 2 = 0) else want O P x k

theorem bld_can (O : List Int) (P : List (Int × Int)) : ∀ k, Can (bld O P k)
  | 0 => trivial
  | k + 1 => by
    rw [bld]
    split
    · exact addL_can (bld_can O P k) _ _
    · exact remL_can (bld_can O P k) _ _
theorem bld_len (O : List Int) (P : List (Int × Int)) : ∀ k, (bld O P k).length ≤ k
  | 0 => by simp [bld]
  | k + 1 => by
    have h := bld_len O P k
    rw [bld]
    split
    · have := addL_length (bld O P k) (lo P k) (hi P k); omega
    · have := remL_len (bld_can O P k) (lo P k) (hi P k); omega
theorem bld_mem (O : List Int) (P : List (Int × Int)) (x : Int) : ∀ k, Mem (bld O P k) x ↔ want O P x k = true
  | 0 => by simp [bld, want, mem_nil]
  | k + 1 => by
    have ih := bld_mem O P x k
    rw [bld, want]
    by_cases hx : lo P k ≤ x ∧ x < hi P k
    · rw [if_pos hx]
      split
      · rw [addL_mem (bld_can O P k)]
        simp [*]
      · rw [remL_mem]
        simp [*]
    · rw [if_neg hx, ← ih]
      split
      · rw [addL_mem (bld_can O P k)]
        constructor
        · rintro (h | h)
          · exact h
          · exact absurd h hx
        · exact .inl
      · rw [remL_mem]
        exact ⟨fun h => h.1, fun h => ⟨h, hx⟩⟩
theorem want_eq (O : List Int) (P : List (Int × Int)) (x : Int) (k : Nat) : want O P x k = memB (bld O P k) x := by
  rw [Bool.eq_iff_iff, memB_iff, bld_mem]
theorem bld_add (O : List Int) (P : List (Int × Int)) (k : Nat) (h : opAt O k % 2 = 0) : bld O P (k + 1) = addL (bld O P k) (lo P k) (hi P k) := by rw [bld, if_pos h]
theorem bld_rem (O : List Int) (P : List (Int × Int)) (k : Nat) (h : ¬ opAt O k % 2 = 0) : bld O P (k + 1) = remL (bld O P k) (lo P k) (hi P k) := by rw [bld, if_neg h]
theorem want_in (O : List Int) (P : List (Int × Int)) (x : Int) (k : Nat) (h1 : lo P k ≤ x) (h2 : x < hi P k) : want O P x (k + 1) = decide (opAt O k % 2 = 0) := by rw [want, if_pos ⟨h1, h2⟩]
theorem want_out (O : List Int) (P : List (Int × Int)) (x : Int) (k : Nat) (h : ¬ (lo P k ≤ x ∧ x < hi P k)) : want O P x (k + 1) = want O P x k := by rw [want, if_neg h]
end Go.Proofs.Ymwhap
