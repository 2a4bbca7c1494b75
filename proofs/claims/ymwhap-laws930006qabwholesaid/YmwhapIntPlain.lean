/-
  Intersect and its model, on lists of spans.
-/
import Derived.Test.YmwhapCan
namespace Go.Proofs.Ymwhap

/-- The overlap of two spans, as a list. -/
def cap (a b c d : Int) : List (Int × Int) := if (if a < c then c else a) < (if d < b then d else b) then [(if a < c then c else a, if d < b then d else b)] else []
/-- The overlaps of one span with those of a list. -/
def row (a b : Int) : List (Int × Int) → List (Int × Int)
  | [] => []
  | q :: s => cap a b q.1 q.2 ++ row a b s
/-- Every pair. -/
def mdI : List (Int × Int) → List (Int × Int) → List (Int × Int)
  | [], _ => []
  | p :: r, y => row p.1 p.2 y ++ mdI r y
/-- One pass over both, at most n rounds. -/
def isN : Nat → List (Int × Int) → List (Int × Int) → List (Int × Int)
  | 0, _, _ => []
  | n + 1, p :: r, q :: s => cap p.1 p.2 q.1 q.2 ++ (if p.2 ≤ q.2 then isN n r (q :: s) else isN n (p :: r) s)
  | _ + 1, _, _ => []

theorem cap_length (a b c d : Int) : (cap a b c d).length ≤ 1 := by
  unfold cap
  generalize (if a < c then c else a) = u
  generalize (if d < b then d else b) = v
  split <;> simp
theorem cap_out {a b c d : Int} (h : b ≤ c ∨ d ≤ a) : cap a b c d = [] := by
  unfold cap
  rw [if_neg]
  rcases h with h | h <;> split <;> split <;> omega
theorem row_length (a b : Int) (y : List (Int × Int)) : (row a b y).length ≤ y.length := by
  induction y with
  | nil => simp [row]
  | cons q s ih =>
    have := cap_length a b q.1 q.2
    simp only [row, List.length_append, List.length_cons]
    omega
theorem mdI_length (x y : List (Int × Int)) : (mdI x y).length ≤ x.length * y.length := by
  induction x with
  | nil => simp [mdI]
  | cons p r ih =>
    have := row_length p.1 p.2 y
    simp only [mdI, List.length_append, List.length_cons, Nat.add_mul, Nat.one_mul]
    omega
theorem row_out {a b : Int} {y : List (Int × Int)} (h : ∀ q ∈ y, b ≤ q.1) : row a b y = [] := by
  induction y with
  | nil => rfl
  | cons q s ih =>
    rw [row, cap_out (.inl (h q (by simp))), ih (fun q hq => h q (by simp [hq]))]
    rfl
theorem mdI_skip {x : List (Int × Int)} {q : Int × Int} {s : List (Int × Int)} (h : ∀ p ∈ x, q.2 ≤ p.1) : mdI x (q :: s) = mdI x s := by
  induction x with
  | nil => rfl
  | cons p r ih =>
    rw [mdI, mdI, row, cap_out (.inr (h p (by simp))), ih (fun p hp => h p (by simp [hp]))]
    rfl
theorem mdI_nil (x : List (Int × Int)) : mdI x [] = [] := by
  induction x with
  | nil => rfl
  | cons p r ih => rw [mdI, ih]; rfl
/-- ONE PASS FINDS ALL PAIRS. -/
theorem isN_eq : ∀ (n : Nat) (x y : List (Int × Int)), Can x → Can y → x.length + y.length ≤ n → isN n x y = mdI x y
  | 0, x, y, _, _, h => by
    have : x = [] := List.eq_nil_of_length_eq_zero (by omega)
    subst this
    rfl
  | n + 1, [], y, _, _, _ => by simp [isN, mdI]
  | n + 1, p :: r, [], _, _, _ => by rw [mdI_nil]; simp [isN]
  | n + 1, p :: r, q :: s, hx, hy, h => by
    simp only [List.length_cons] at h
    rw [isN]
    split
    · rename_i hpq
      rw [isN_eq n r (q :: s) hx.2.2 hy (by simp only [List.length_cons]; omega), mdI, row, row_out (y := s) (fun u hu => by have := hy.2.1 u hu; omega), List.append_nil]
    · rename_i hpq
      rw [isN_eq n (p :: r) s hx hy.2.2 (by simp only [List.length_cons]; omega), mdI, mdI, row, mdI_skip (x := r) (fun u hu => by have := hx.2.1 u hu; omega), List.append_assoc]

/-! ### The walks' steps -/
theorem isN_in {x y R out : List (Int × Int)} {i j n : Nat} (h1 : i < x.length) (h2 : j < y.length) (e : out ++ isN (n + 1) (x.drop i) (y.drop j) = R) :
    (out ++ cap (lo x i) (hi x i) (lo y j) (hi y j)) ++ (if hi x i ≤ hi y j then isN n (x.drop (i + 1)) (y.drop j) else isN n (x.drop i) (y.drop (j + 1))) = R := by
  rw [← e, drop_cons x i h1, drop_cons y j h2, isN, List.append_assoc]
theorem isN_out {x y R out : List (Int × Int)} {i j n : Nat} (h : ¬ (i < x.length ∧ j < y.length)) (e : out ++ isN n (x.drop i) (y.drop j) = R) : out = R := by
  rw [← e]
  have : isN n (x.drop i) (y.drop j) = [] := by
    cases n with
    | zero => rfl
    | succ n =>
      by_cases hi' : i < x.length
      · rw [List.drop_of_length_le (l := y) (by omega), drop_cons x i hi']
        simp [isN]
      · rw [List.drop_of_length_le (l := x) (by omega)]
        simp [isN]
  rw [this, List.append_nil]
theorem mdI_row {x y R out : List (Int × Int)} {i : Nat} (h : i < x.length) (e : out ++ mdI (x.drop i) y = R) : out ++ (row (lo x i) (hi x i) (y.drop 0) ++ mdI (x.drop (i + 1)) y) = R := by
  rw [← e, drop_cons x i h, mdI]
  rfl
theorem mdI_end {x y R out : List (Int × Int)} {i : Nat} (h : ¬ i < x.length) (e : out ++ mdI (x.drop i) y = R) : out = R := by
  rw [← e, List.drop_of_length_le (by omega), mdI, List.append_nil]
theorem row_in {y R out m : List (Int × Int)} {a b : Int} {j : Nat} (h : j < y.length) (e : out ++ (row a b (y.drop j) ++ m) = R) : (out ++ cap a b (lo y j) (hi y j)) ++ (row a b (y.drop (j + 1)) ++ m) = R := by
  rw [← e, drop_cons y j h, row]
  simp only [List.append_assoc]
theorem row_end {y R out m : List (Int × Int)} {a b : Int} {j : Nat} (h : ¬ j < y.length) (e : out ++ (row a b (y.drop j) ++ m) = R) : out ++ m = R := by
  rw [← e, List.drop_of_length_le (by omega), row, List.nil_append]
theorem cap_no {a b c d lo hi : Int} (h1 : (if a < c then c else a) = lo) (h2 : (if d < b then d else b) = hi) (h : ¬ lo < hi) : cap a b c d = [] := by
  unfold cap
  rw [h1, h2, if_neg h]
theorem cap_yes {a b c d lo hi : Int} (h1 : (if a < c then c else a) = lo) (h2 : (if d < b then d else b) = hi) (h : lo < hi) : cap a b c d = [(lo, hi)] := by
  unfold cap
  rw [h1, h2, if_pos h]
end Go.Proofs.Ymwhap
