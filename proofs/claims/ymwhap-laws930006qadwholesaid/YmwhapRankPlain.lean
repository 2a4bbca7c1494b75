/-
  Rank and its model, on lists of spans.
-/
import Derived.Test.YmwhapSteps
namespace Go.Proofs.Ymwhap
open Go.RowKit

/-- All bounds are int64. -/
def Bd (l : List (Int × Int)) : Prop := ∀ q ∈ l, I64 q.1 ∧ I64 q.2
theorem Bd.at {l : List (Int × Int)} (h : Bd l) {k : Nat} (hk : k < l.length) : I64 (lo l k) ∧ I64 (hi l k) := h _ (lo_mem hk)
theorem bd_cons {p : Int × Int} {r : List (Int × Int)} : Bd (p :: r) ↔ (I64 p.1 ∧ I64 p.2) ∧ Bd r := by
  unfold Bd
  constructor
  · intro h
    exact ⟨h p (by simp), fun q hq => h q (by simp [hq])⟩
  · rintro ⟨h1, h2⟩ q hq
    rcases List.mem_cons.1 hq with rfl | hq
    · exact h1
    · exact h2 q hq
theorem bd_nil : Bd [] := fun q hq => by cases hq
theorem bd_append {l m : List (Int × Int)} (h1 : Bd l) (h2 : Bd m) : Bd (l ++ m) := by
  intro q hq
  rcases List.mem_append.1 hq with h | h
  · exact h1 q h
  · exact h2 q h
theorem addAbs_bd (l : List (Int × Int)) : ∀ (a b : Int), I64 a → I64 b → Bd l → Bd (addAbs l a b) := by
  induction l with
  | nil => intro a b ha hb _; exact bd_cons.2 ⟨⟨ha, hb⟩, bd_nil⟩
  | cons p r ih =>
    intro a b ha hb h
    obtain ⟨⟨h1, h2⟩, h3⟩ := bd_cons.1 h
    rw [addAbs]
    split
    · refine ih _ _ ?_ ?_ h3
      · split
        · exact h1
        · exact ha
      · split
        · exact h2
        · exact hb
    · exact bd_cons.2 ⟨⟨ha, hb⟩, h⟩
theorem addN_bd (a b : Int) (ha : I64 a) (hb : I64 b) (l : List (Int × Int)) (h : Bd l) : Bd (addN a b l) := by
  induction l with
  | nil => exact bd_cons.2 ⟨⟨ha, hb⟩, bd_nil⟩
  | cons p r ih =>
    rw [addN]
    split
    · exact bd_cons.2 ⟨(bd_cons.1 h).1, ih (bd_cons.1 h).2⟩
    · exact addAbs_bd _ _ _ ha hb h
theorem addL_bd {l : List (Int × Int)} (h : Bd l) {a b : Int} (ha : I64 a) (hb : I64 b) : Bd (addL l a b) := by
  unfold addL
  split
  · exact h
  · exact addN_bd a b ha hb l h
theorem remN_bd (a b : Int) (ha : I64 a) (hb : I64 b) (l : List (Int × Int)) (h : Bd l) : Bd (remN a b l) := by
  induction l with
  | nil => exact bd_nil
  | cons p r ih =>
    obtain ⟨⟨h1, h2⟩, h3⟩ := bd_cons.1 h
    rw [remN]
    refine bd_append ?_ (bd_append ?_ (ih h3))
    · unfold remA
      split
      · refine bd_cons.2 ⟨⟨h1, ?_⟩, bd_nil⟩
        simp only
        split
        · exact ha
        · exact h2
      · exact bd_nil
    · unfold remB
      split
      · refine bd_cons.2 ⟨⟨?_, h2⟩, bd_nil⟩
        simp only
        split
        · exact hb
        · exact h1
      · exact bd_nil
theorem remL_bd {l : List (Int × Int)} (h : Bd l) {a b : Int} (ha : I64 a) (hb : I64 b) : Bd (remL l a b) := by
  unfold remL
  split
  · exact h
  · exact remN_bd a b ha hb l h
theorem bld_bd (O : List Int) (P : List (Int × Int)) (hP : ∀ k, k < P.length → I64 (lo P k) ∧ I64 (hi P k)) : ∀ k, k ≤ P.length → Bd (bld O P k)
  | 0, _ => bd_nil
  | k + 1, h => by
    have ih := bld_bd O P hP k (by omega)
    obtain ⟨h1, h2⟩ := hP k (by omega)
    rw [bld]
    split
    · exact addL_bd ih h1 h2
    · exact remL_bd ih h1 h2

/-- What Rank computes, from a sum t on. -/
def rkL (x : Int) : List (Int × Int) → Int → Int
  | [], t => t
  | p :: r, t => if x < p.2 then IntKind.u64.wrap (t + sizeS p.1 x) else rkL x r (IntKind.u64.wrap (t + sizeS p.1 p.2))
/-- What the model computes. -/
def mdL (x : Int) : List (Int × Int) → Int → Int
  | [], t => t
  | p :: r, t => mdL x r (if p.1 < (if x < p.2 then x else p.2) then IntKind.u64.wrap (t + sizeS p.1 (if x < p.2 then x else p.2)) else t)

theorem wrap_range (n : Int) : 0 ≤ IntKind.u64.wrap n ∧ IntKind.u64.wrap n ≤ 18446744073709551615 := by rw [IntKind.wrap_u64]; omega
theorem wrap_id {n : Int} (h0 : 0 ≤ n) (h1 : n ≤ 18446744073709551615) : IntKind.u64.wrap n = n := by rw [IntKind.wrap_u64]; omega
theorem mdL_past (x : Int) (l : List (Int × Int)) (h : ∀ q ∈ l, x < q.1) : ∀ t, mdL x l t = t := by
  induction l with
  | nil => intro t; rfl
  | cons p r ih =>
    intro t
    have h1 := h p (by simp)
    rw [mdL, if_neg (by split <;> omega)]
    exact ih (fun q hq => h q (by simp [hq])) t
theorem rk_md (x : Int) (l : List (Int × Int)) (hc : Can l) : ∀ t, 0 ≤ t → t ≤ 18446744073709551615 → rkL x l t = mdL x l t := by
  induction l with
  | nil => intro t _ _; rfl
  | cons p r ih =>
    intro t h0 h1
    have h2 := hc.1
    rw [rkL, mdL]
    by_cases hx : x < p.2
    · have hp := mdL_past x r (fun q hq => by have := hc.2.1 q hq; omega)
      rw [if_pos hx, hp]
      simp only [if_pos hx]
      by_cases hy : p.1 < x
      · rw [if_pos hy]
      · rw [if_neg hy]
        have : sizeS p.1 x = 0 := by unfold sizeS; rw [if_pos (by omega)]
        rw [this, Int.add_zero, wrap_id h0 h1]
    · rw [if_neg hx]
      simp only [if_neg hx]
      rw [if_pos h2]
      have := wrap_range (t + sizeS p.1 p.2)
      exact ih hc.2.2 _ this.1 this.2

/-! ### The walk's steps -/
theorem rk_hit {x : Int} {l : List (Int × Int)} {j : Nat} {t r : Int} (h : j < l.length) (e : rkL x (l.drop j) t = r) (hx : x < hi l j) : r = IntKind.u64.wrap (t + sizeS (lo l j) x) := by
  rw [← e, drop_cons l j h, rkL, if_pos hx]
theorem rk_miss {x : Int} {l : List (Int × Int)} {j : Nat} {t r : Int} (h : j < l.length) (e : rkL x (l.drop j) t = r) (hx : ¬ x < hi l j) : rkL x (l.drop (j + 1)) (IntKind.u64.wrap (t + sizeS (lo l j) (hi l j))) = r := by
  rw [← e, drop_cons l j h, rkL, if_neg hx]
theorem rk_end {x : Int} {l : List (Int × Int)} {j : Nat} {t r : Int} (h : ¬ j < l.length) (e : rkL x (l.drop j) t = r) : r = t := by
  rw [← e, List.drop_of_length_le (by omega), rkL]
theorem md_in {x : Int} {l : List (Int × Int)} {j : Nat} {t r m : Int} (h : j < l.length) (e : mdL x (l.drop j) t = r) (hm : (if x < hi l j then x else hi l j) = m) (hx : lo l j < m) : mdL x (l.drop (j + 1)) (IntKind.u64.wrap (t + sizeS (lo l j) m)) = r := by
  rw [← e, drop_cons l j h, mdL]
  simp only [hm, if_pos hx]
theorem md_out {x : Int} {l : List (Int × Int)} {j : Nat} {t r m : Int} (h : j < l.length) (e : mdL x (l.drop j) t = r) (hm : (if x < hi l j then x else hi l j) = m) (hx : ¬ lo l j < m) : mdL x (l.drop (j + 1)) t = r := by
  rw [← e, drop_cons l j h, mdL]
  simp only [hm, if_neg hx]
theorem md_end {x : Int} {l : List (Int × Int)} {j : Nat} {t r : Int} (h : ¬ j < l.length) (e : mdL x (l.drop j) t = r) : r = t := by
  rw [← e, List.drop_of_length_le (by omega), mdL]
end Go.Proofs.Ymwhap
