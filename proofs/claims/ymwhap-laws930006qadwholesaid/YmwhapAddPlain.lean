/-
  What Add computes, on lists of spans.
-/
import Derived.Test.YmwhapSize
namespace Go.Proofs.Ymwhap
open Go.RowKit

/-- The spans that overlap or touch (a, b) are absorbed. -/
def addAbs : List (Int × Int) → Int → Int → List (Int × Int)
  | [], a, b => [(a, b)]
  | p :: r, a, b => if p.1 ≤ b then addAbs r (if p.1 < a then p.1 else a) (if b < p.2 then p.2 else b) else (a, b) :: p :: r
/-- Those that end ahead of a are passed by. -/
def addN (a b : Int) : List (Int × Int) → List (Int × Int)
  | [] => [(a, b)]
  | p :: r => if p.2 < a then p :: addN a b r else addAbs (p :: r) a b
def addL (l : List (Int × Int)) (a b : Int) : List (Int × Int) := if b ≤ a then l else addN a b l

theorem addAbs_length (l : List (Int × Int)) : ∀ a b, (addAbs l a b).length ≤ l.length + 1 := by
  induction l with
  | nil => intro a b; simp [addAbs]
  | cons p r ih =>
    intro a b
    rw [addAbs]
    split
    · have := ih (if p.1 < a then p.1 else a) (if b < p.2 then p.2 else b)
      simp only [List.length_cons]; omega
    · simp
theorem addN_length (a b : Int) (l : List (Int × Int)) : (addN a b l).length ≤ l.length + 1 := by
  induction l with
  | nil => simp [addN]
  | cons p r ih =>
    rw [addN]
    split
    · simp only [List.length_cons]; omega
    · exact addAbs_length _ _ _
theorem addL_length (l : List (Int × Int)) (a b : Int) : (addL l a b).length ≤ l.length + 1 := by
  unfold addL
  split
  · omega
  · exact addN_length a b l

/-! ### The walk's steps -/
theorem take_snoc' (l : List (Int × Int)) (j : Nat) (h : j < l.length) : l.take (j + 1) = l.take j ++ [(lo l j, hi l j)] := by
  have e : (lo l j, hi l j) = l[j] := by simp [lo, hi, List.getD, h]
  rw [List.take_succ_eq_append_getElem h, e]
theorem add_pass {l R : List (Int × Int)} {a b : Int} {j : Nat} (h : j < l.length) (e : l.take j ++ addN a b (l.drop j) = R) (hp : hi l j < a) : l.take (j + 1) ++ addN a b (l.drop (j + 1)) = R := by
  rw [← e, take_snoc' l j h, drop_cons l j h, addN, if_pos hp, List.append_assoc]
  rfl
theorem add_stop {l R : List (Int × Int)} {a b : Int} {j : Nat} (h : j < l.length) (e : l.take j ++ addN a b (l.drop j) = R) (hp : ¬ hi l j < a) : l.take j ++ addAbs (l.drop j) a b = R := by
  rw [← e, drop_cons l j h, addN, if_neg hp]
theorem add_stop' {l R : List (Int × Int)} {a b : Int} {j : Nat} (h : ¬ j < l.length) (e : l.take j ++ addN a b (l.drop j) = R) : l.take j ++ addAbs (l.drop j) a b = R := by
  rw [← e, List.drop_of_length_le (by omega)]
  rfl
theorem abs_in {l R pre : List (Int × Int)} {a b : Int} {j : Nat} (h : j < l.length) (e : pre ++ addAbs (l.drop j) a b = R) (hp : lo l j ≤ b) :
    pre ++ addAbs (l.drop (j + 1)) (if lo l j < a then lo l j else a) (if b < hi l j then hi l j else b) = R := by
  rw [← e, drop_cons l j h, addAbs, if_pos hp]
theorem abs_out {l R pre : List (Int × Int)} {a b : Int} {j : Nat} (h : j < l.length) (e : pre ++ addAbs (l.drop j) a b = R) (hp : ¬ lo l j ≤ b) : (pre ++ [(a, b)]) ++ l.drop j = R := by
  rw [← e, drop_cons l j h, addAbs, if_neg hp, List.append_assoc]
  rfl
theorem abs_out' {l R pre : List (Int × Int)} {a b : Int} {j : Nat} (h : ¬ j < l.length) (e : pre ++ addAbs (l.drop j) a b = R) : (pre ++ [(a, b)]) ++ l.drop j = R := by
  rw [← e, List.drop_of_length_le (by omega), List.append_nil]
  rfl
theorem tail_step {l R out : List (Int × Int)} {j : Nat} (h : j < l.length) (e : out ++ l.drop j = R) : (out ++ [(lo l j, hi l j)]) ++ l.drop (j + 1) = R := by
  rw [← e, drop_cons l j h, List.append_assoc]
  rfl
theorem tail_end {l R out : List (Int × Int)} {j : Nat} (h : ¬ j < l.length) (e : out ++ l.drop j = R) : out = R := by
  rw [← e, List.drop_of_length_le (by omega), List.append_nil]
theorem len_le {out t R : List (Int × Int)} (e : out ++ t = R) : out.length ≤ R.length := by
  rw [← e, List.length_append]; omega
end Go.Proofs.Ymwhap
