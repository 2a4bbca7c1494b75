/-
  What Remove computes, on lists of spans.
-/
import Derived.Test.YmwhapAddPlain
namespace Go.Proofs.Ymwhap
open Go.RowKit

/-- What is left of a span ahead of a. -/
def remA (a x y : Int) : List (Int × Int) := if x < a then [(x, if a < y then a else y)] else []
/-- What is left of a span from b on. -/
def remB (b x y : Int) : List (Int × Int) := if b < y then [(if x < b then b else x, y)] else []
def remN (a b : Int) : List (Int × Int) → List (Int × Int)
  | [] => []
  | p :: r => remA a p.1 p.2 ++ (remB b p.1 p.2 ++ remN a b r)
def remL (l : List (Int × Int)) (a b : Int) : List (Int × Int) := if b ≤ a then l else remN a b l

theorem remA_length (a x y : Int) : (remA a x y).length ≤ 1 := by unfold remA; split <;> simp
theorem remB_length (b x y : Int) : (remB b x y).length ≤ 1 := by unfold remB; split <;> simp
theorem remN_length (a b : Int) (l : List (Int × Int)) : (remN a b l).length ≤ 2 * l.length := by
  induction l with
  | nil => simp [remN]
  | cons p r ih =>
    have h1 := remA_length a p.1 p.2
    have h2 := remB_length b p.1 p.2
    simp only [remN, List.length_append, List.length_cons]
    omega
theorem remL_length (l : List (Int × Int)) (a b : Int) : (remL l a b).length ≤ 2 * l.length := by
  unfold remL
  split
  · omega
  · exact remN_length a b l

theorem rem_step {l R out : List (Int × Int)} {a b : Int} {j : Nat} (h : j < l.length) (e : out ++ remN a b (l.drop j) = R) : (out ++ remA a (lo l j) (hi l j)) ++ (remB b (lo l j) (hi l j) ++ remN a b (l.drop (j + 1))) = R := by
  rw [← e, drop_cons l j h, remN, List.append_assoc]
theorem rem_end {l R out : List (Int × Int)} {a b : Int} {j : Nat} (h : ¬ j < l.length) (e : out ++ remN a b (l.drop j) = R) : out = R := by
  rw [← e, List.drop_of_length_le (by omega), remN, List.append_nil]
theorem remA_no {a x y : Int} (h : ¬ x < a) : remA a x y = [] := by unfold remA; rw [if_neg h]
theorem remA_cut {a x y : Int} (h : x < a) (h' : a < y) : remA a x y = [(x, a)] := by unfold remA; rw [if_pos h, if_pos h']
theorem remA_all {a x y : Int} (h : x < a) (h' : ¬ a < y) : remA a x y = [(x, y)] := by unfold remA; rw [if_pos h, if_neg h']
theorem remB_no {b x y : Int} (h : ¬ b < y) : remB b x y = [] := by unfold remB; rw [if_neg h]
theorem remB_cut {b x y : Int} (h : b < y) (h' : x < b) : remB b x y = [(b, y)] := by unfold remB; rw [if_pos h, if_pos h']
theorem remB_all {b x y : Int} (h : b < y) (h' : ¬ x < b) : remB b x y = [(x, y)] := by unfold remB; rw [if_pos h, if_neg h']
end Go.Proofs.Ymwhap
