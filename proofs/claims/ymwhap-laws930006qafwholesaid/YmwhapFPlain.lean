/-
  The plain law of LawS930006QAFWhole: what Select answers on a list of spans that lie apart by given gaps.
-/
import Derived.Test.YmwhapSize
namespace Go.Proofs.Ymwhap
open Go.RowKit

/-- The number of values in the first i spans. -/
def acc (P : List (Int × Int)) : Nat → Int
  | 0 => 0
  | i + 1 => acc P i + (hi P i + 1)
/-- The gaps passed by the first i rounds. -/
def gp (P : List (Int × Int)) : Nat → Int
  | 0 => 0
  | i + 1 => if i = 0 then gp P i else gp P i + (lo P i + 1)
/-- The spans built by the first i rounds. -/
def spn (st : Int) (P : List (Int × Int)) : Nat → List (Int × Int)
  | 0 => []
  | i + 1 => spn st P i ++ [(st + acc P i + gp P (i + 1), st + acc P (i + 1) + gp P (i + 1))]

/-- Each part's gap and length is a byte. -/
def Bytes (P : List (Int × Int)) : Prop := ∀ k, k < P.length → 0 ≤ lo P k ∧ lo P k ≤ 255 ∧ 0 ≤ hi P k ∧ hi P k ≤ 255

theorem acc_bd {P : List (Int × Int)} (hP : Bytes P) : ∀ i, i ≤ P.length → (i : Int) ≤ acc P i ∧ acc P i ≤ 256 * i
  | 0, _ => by simp [acc]
  | i + 1, h => by
    have h1 := acc_bd hP i (by omega)
    have h2 := hP i (by omega)
    simp only [acc]
    omega
theorem gp_bd {P : List (Int × Int)} (hP : Bytes P) : ∀ i, i ≤ P.length → 0 ≤ gp P i ∧ gp P i ≤ 256 * i
  | 0, _ => by simp [gp]
  | i + 1, h => by
    have h1 := gp_bd hP i (by omega)
    have h2 := hP i (by omega)
    simp only [gp]
    split <;> omega
theorem acc_mono {P : List (Int × Int)} (hP : Bytes P) (i : Nat) : ∀ d, i + d ≤ P.length → acc P i ≤ acc P (i + d)
  | 0, _ => by simp
  | d + 1, h => by
    have h1 := acc_mono hP i d (by omega)
    have h2 := hP (i + d) (by omega)
    rw [← Nat.add_assoc]
    simp only [acc]
    omega
theorem spn_length (st : Int) (P : List (Int × Int)) (n : Nat) : (spn st P n).length = n := by
  induction n with
  | zero => rfl
  | succ n ih => simp [spn, ih]
theorem spn_get (st : Int) (P : List (Int × Int)) : ∀ n j, j < n → (spn st P n)[j]? = some (st + acc P j + gp P (j + 1), st + acc P (j + 1) + gp P (j + 1))
  | n + 1, j, h => by
    by_cases e : j = n
    · subst e
      simp [spn, spn_length]
    · have := spn_get st P n j (by omega)
      simp only [spn]
      rw [List.getElem?_append_left (by rw [spn_length]; omega)]
      exact this
theorem spn_lo (st : Int) (P : List (Int × Int)) (n j : Nat) (h : j < n) : lo (spn st P n) j = st + acc P j + gp P (j + 1) := by
  simp [lo, List.getD, spn_get st P n j h]
theorem spn_hi (st : Int) (P : List (Int × Int)) (n j : Nat) (h : j < n) : hi (spn st P n) j = st + acc P (j + 1) + gp P (j + 1) := by
  simp [hi, List.getD, spn_get st P n j h]
theorem spn_I64 {st : Int} {P : List (Int × Int)} (hP : Bytes P) (hl : P.length ≤ 1024) (h0 : -9223372036854775808 ≤ st) (h1 : st ≤ 9223372036853727231) (j : Nat) (h : j < (spn st P P.length).length) :
    I64 (lo (spn st P P.length) j) ∧ I64 (hi (spn st P P.length) j) := by
  rw [spn_length] at h
  rw [spn_lo st P _ j h, spn_hi st P _ j h]
  have a1 := acc_bd hP j (by omega)
  have a2 := acc_bd hP (j + 1) (by omega)
  have a3 := gp_bd hP (j + 1) (by omega)
  unfold I64
  omega

/-- One step of Select on these spans. -/
theorem sel_step {st : Int} {P : List (Int × Int)} (hP : Bytes P) (n i : Nat) (hn : n ≤ P.length) (hi' : i < n) (k : Int) :
    selL ((spn st P n).drop i) (k - acc P i) = if k < acc P (i + 1) then (st + gp P (i + 1) + k, true) else selL ((spn st P n).drop (i + 1)) (k - acc P (i + 1)) := by
  have hb := hP i (by omega)
  have e : sizeS (st + acc P i + gp P (i + 1)) (st + acc P (i + 1) + gp P (i + 1)) = hi P i + 1 := by
    unfold sizeS
    have : acc P (i + 1) = acc P i + (hi P i + 1) := rfl
    rw [if_neg (by omega)]
    omega
  have e2 : acc P (i + 1) = acc P i + (hi P i + 1) := rfl
  rw [drop_cons _ i (by rw [spn_length]; exact hi'), spn_lo st P n i hi', spn_hi st P n i hi', selL]
  simp only [e]
  by_cases h : k < acc P (i + 1)
  · rw [if_pos (by omega), if_pos h]
    congr 1
    omega
  · rw [if_neg (by omega), if_neg h]
    congr 1
    omega
theorem sel_over {st : Int} {P : List (Int × Int)} (hP : Bytes P) (n : Nat) (hn : n ≤ P.length) (k : Int) (hk : acc P n ≤ k) : ∀ d i, i + d = n → selL ((spn st P n).drop i) (k - acc P i) = (0, false)
  | 0, i, h => by
    rw [List.drop_of_length_le (by rw [spn_length]; omega), selL]
  | d + 1, i, h => by
    have hm := acc_mono hP (i + 1) d (by omega)
    rw [show i + 1 + d = n by omega] at hm
    rw [sel_step hP n i hn (by omega) k, if_neg (by omega)]
    exact sel_over hP n hn k hk d (i + 1) (by omega)
theorem sel_in {st : Int} {P : List (Int × Int)} (hP : Bytes P) (n : Nat) (hn : n ≤ P.length) (k : Int) (j : Nat) (hj : j < n) (h1 : acc P j ≤ k) (h2 : k < acc P (j + 1)) : ∀ d i, i + d = j → selL ((spn st P n).drop i) (k - acc P i) = (st + gp P (j + 1) + k, true)
  | 0, i, h => by
    have e : i = j := by omega
    subst e
    rw [sel_step hP n i hn hj k, if_pos h2]
  | d + 1, i, h => by
    have hm := acc_mono hP (i + 1) d (by omega)
    rw [show i + 1 + d = j by omega] at hm
    rw [sel_step hP n i hn (by omega) k, if_neg (by omega)]
    exact sel_in hP n hn k j hj h1 h2 d (i + 1) (by omega)
/-- WHAT SELECT ANSWERS. -/
theorem sel_none {st : Int} {P : List (Int × Int)} (hP : Bytes P) (k : Int) (hk : acc P P.length ≤ k) : selL (spn st P P.length) k = (0, false) := by
  have := sel_over (st := st) hP P.length (Nat.le_refl _) k hk P.length 0 (by omega)
  simpa [acc] using this
theorem sel_some {st : Int} {P : List (Int × Int)} (hP : Bytes P) (k : Int) (j : Nat) (hj : j < P.length) (h1 : acc P j ≤ k) (h2 : k < acc P (j + 1)) : selL (spn st P P.length) k = (st + gp P (j + 1) + k, true) := by
  have := sel_in (st := st) hP P.length (Nat.le_refl _) k j hj h1 h2 j 0 (by omega)
  simpa [acc] using this
end Go.Proofs.Ymwhap
