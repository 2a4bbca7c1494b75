/-
  (Span).Size and (Set).Select, walked.
-/
import Derived.Test.YmwhapBase
namespace Go.Proofs.Ymwhap
open Go.RowKit

/-- The number of values of a span. -/
def sizeS (a b : Int) : Int := if b ≤ a then 0 else b - a

/-- An int64. -/
def I64 (x : Int) : Prop := -9223372036854775808 ≤ x ∧ x ≤ 9223372036854775807

theorem sizeS_pos {a b : Int} (h : ¬ b ≤ a) (ha : I64 a) (hb : I64 b) : IntKind.u64.wrap (IntKind.u64.wrap b - IntKind.u64.wrap a) = sizeS a b := by
  obtain ⟨_, _⟩ := ha
  obtain ⟨_, _⟩ := hb
  unfold sizeS
  rw [if_neg h, IntKind.wrap_u64, IntKind.wrap_u64, IntKind.wrap_u64]
  omega
theorem sizeS_bd {a b : Int} (ha : I64 a) (hb : I64 b) : 0 ≤ sizeS a b ∧ sizeS a b ≤ 18446744073709551615 := by
  obtain ⟨_, _⟩ := ha
  obtain ⟨_, _⟩ := hb
  unfold sizeS
  split <;> omega

set_option maxHeartbeats 400000 in
theorem size_any (a b : Int) (ha : I64 a) (hb : I64 b) (w : World) :
    Calls Yapv.prog 31 #[.agg #[.int .i64 a, .int .i64 b]] w fun e w' => e = .returned (.int .u64 (sizeS a b)) ∧ w' = w.alloc (.cells #[.int .i64 a, .int .i64 b] 31) := by
  by_cases h : b ≤ a
  · go_enter Yapv.func31, Yapv.ntmps31
    go_wp2
    go_ret
    exact ⟨by simp [sizeS, h], rfl⟩
  · go_enter Yapv.func31, Yapv.ntmps31
    go_wp2
    go_ret
    exact ⟨ret_int (sizeS_pos (by omega) ha hb), rfl⟩

/-- What Select computes. -/
def selL : List (Int × Int) → Int → Int × Bool
  | [], _ => (0, false)
  | p :: r, k => if k < sizeS p.1 p.2 then (p.1 + k, true) else selL r (k - sizeS p.1 p.2)

theorem drop_cons (l : List (Int × Int)) (j : Nat) (h : j < l.length) : l.drop j = (lo l j, hi l j) :: l.drop (j + 1) := by
  rw [List.drop_eq_getElem_cons h]
  have e : (lo l j, hi l j) = l[j] := by simp [lo, hi, List.getD, h]
  rw [e]
theorem sel_hit {l : List (Int × Int)} {j : Nat} {q : Int} {r : Int × Bool} (h : j < l.length) (hr : selL (l.drop j) q = r) (hq : q < sizeS (lo l j) (hi l j)) : r = (lo l j + q, true) := by
  rw [← hr, drop_cons l j h, selL, if_pos hq]
theorem sel_miss {l : List (Int × Int)} {j : Nat} {q : Int} {r : Int × Bool} (h : j < l.length) (hr : selL (l.drop j) q = r) (hq : ¬ q < sizeS (lo l j) (hi l j)) : selL (l.drop (j + 1)) (q - sizeS (lo l j) (hi l j)) = r := by
  rw [← hr, drop_cons l j h, selL, if_neg hq]
theorem sel_end {l : List (Int × Int)} {j : Nat} {q : Int} {r : Int × Bool} (h : ¬ j < l.length) (hr : selL (l.drop j) q = r) : r = (0, false) := by
  rw [← hr, List.drop_of_length_le (by omega), selL]
theorem sel_val {a b q : Int} (ha : I64 a) (hb : I64 b) (h0 : 0 ≤ q) (hq : q < sizeS a b) : wrap64 (IntKind.u64.wrap (IntKind.u64.wrap a + q)) = a + q := by
  obtain ⟨_, _⟩ := ha
  obtain ⟨_, _⟩ := hb
  unfold sizeS at hq
  rw [IntKind.wrap_u64, IntKind.wrap_u64]
  unfold wrap64
  split at hq <;> omega

theorem ret_sel {a b : Int} {p q : Bool} (h : a = b) (h' : p = q) : Ending.returned (.tuple #[.int .i64 a, .bool p]) = .returned (.tuple #[.int .i64 b, .bool q]) := by rw [h, h']

set_option maxHeartbeats 400000 in
theorem select_any (B : Nat) (v : Value) (l : List (Int × Int)) (k : Int) (w : World) (hs : Sps w B v l) (hn : l.length ≤ 1048576) (h0 : 0 ≤ k) (hk : k ≤ 18446744073709551615)
    (hI : ∀ j, j < l.length → I64 (lo l j) ∧ I64 (hi l j)) :
    Calls Yapv.prog 24 #[.agg #[v], .int .u64 k] w fun e w' => e = .returned (.tuple #[.int .i64 (selL l k).1, .bool (selL l k).2]) ∧ Below w.heap.size w w' := by
  obtain ⟨a, c, rfl⟩ := hs.slice
  generalize hr : selL l k = r
  go_enter Yapv.func24, Yapv.ntmps24
  go_wp2
  go_loopw [1, 6] (fun kk i wr => ∃ (j : Nat) (q : Int), j ≤ l.length ∧ i = .int .i64 j ∧ kk = .int .u64 q ∧ 0 ≤ q ∧ q ≤ 18446744073709551615 ∧ Hid (selL (l.drop j) q = r) ∧ Below (w.heap.size + 1) (w.alloc (.cells #[.slice a l.length c] 25)) wr)
    (fun _ i _ => l.length - (intOf i).toNat)
  case atStart => exact ⟨0, k, Nat.zero_le _, rfl, rfl, h0, hk, hr, Below.refl _ _⟩
  case round =>
    obtain ⟨j, q, hj, rfl, rfl, hq0, hq1, HS, hb⟩ := hrel
    clear hr
    have hbox := box_cell hb
    have hsz := box_size hb
    by_cases hlt : j < l.length
    · obtain ⟨g, rfl, hB, hg, c0, c1⟩ := (hs.below (box_below hb)).cells j hlt
      obtain ⟨i0, i1⟩ := hI j hlt
      have hbd := sizeS_bd i0 i1
      have hal : ∀ o, (wr.alloc o).cell? ⟨w.heap.size, 0, none⟩ = wr.cell? ⟨w.heap.size, 0, none⟩ := fun o => World.cell?_alloc_lt _ _ _ (by simp; omega)
      by_cases hq : q < sizeS (lo l j) (hi l j)
      · go_wp2_with (go_at_call 31; refine (size_any _ _ i0 i1 _).mono ?_; rintro e w' ⟨rfl, rfl⟩)
        go_ret2
        rw [sel_hit hlt HS.out hq]
        exact ⟨ret_sel (sel_val i0 i1 hq0 hq) rfl, (box_below hb).alloc (by omega) _⟩
      · go_wp2_with (go_at_call 31; refine (size_any _ _ i0 i1 _).mono ?_; rintro e w' ⟨rfl, rfl⟩)
        go_roundw
        case rel => exact ⟨j + 1, q - sizeS (lo l j) (hi l j), by omega, by go_num, rfl, by omega, by omega, sel_miss hlt HS.out (by omega), hb.alloc hsz _⟩
        case measure => simp [intOf]; omega
    · go_wp2
      go_ret2
      rw [sel_end hlt HS.out]
      exact ⟨rfl, box_below hb⟩
end Go.Proofs.Ymwhap
