/-
  (Set).Rank and its model, walked.
-/
import Derived.Test.YmwhapRankPlain
import Derived.Test.YmwhapLaws
namespace Go.Proofs.Ymwhap
open Go.RowKit

set_option maxHeartbeats 400000 in
theorem rank_any (B : Nat) (v : Value) (l : List (Int × Int)) (x : Int) (w : World) (hs : Sps w B v l) (hn : l.length ≤ 1048576) (hB : Bd l) (hx : I64 x) :
    Calls Yapv.prog 12 #[.agg #[v], .int .i64 x] w fun e w' => e = .returned (.int .u64 (rkL x l 0)) ∧ Below w.heap.size w w' := by
  obtain ⟨a, c, rfl⟩ := hs.slice
  generalize hr : rkL x l 0 = r
  have HR : Hid (rkL x (l.drop 0) 0 = r) := hr
  clear hr
  go_enter Yapv.func12, Yapv.ntmps12
  go_wp2
  go_loopw [5, 6] (fun t i wr => ∃ (j : Nat) (q : Int), j ≤ l.length ∧ i = .int .i64 j ∧ t = .int .u64 q ∧ Hid (rkL x (l.drop j) q = r) ∧ Below (w.heap.size + 1) (w.alloc (.cells #[.slice a l.length c] 25)) wr)
    (fun _ i _ => l.length - (intOf i).toNat)
  case atStart => exact ⟨0, 0, Nat.zero_le _, rfl, rfl, HR, Below.refl _ _⟩
  case round =>
    clear HR
    obtain ⟨j, q, hj, rfl, rfl, HS, hb⟩ := hrel
    have hbox := box_cell hb
    have hsz := box_size hb
    by_cases hlt : j < l.length
    · obtain ⟨g, rfl, hBg, hg, c0, c1⟩ := (hs.below (box_below hb)).cells j hlt
      obtain ⟨i0, i1⟩ := hB.at hlt
      by_cases hq : x < hi l j
      · go_wp2_with (go_at_call 31; refine (size_any _ _ i0 hx _).mono ?_; rintro e w' ⟨rfl, rfl⟩)
        go_ret
        rw [rk_hit hlt HS.out hq]
        exact ⟨rfl, ((box_below hb).alloc (by omega) _).alloc (by simp; omega) _⟩
      · go_wp2_with (go_at_call 31; refine (size_any _ _ i0 i1 _).mono ?_; rintro e w' ⟨rfl, rfl⟩)
        go_roundw
        case rel => exact ⟨j + 1, _, hlt, by go_num, rfl, rk_miss hlt HS.out (by omega), (hb.alloc hsz _).alloc (by simp; omega) _⟩
        case measure => simp [intOf]; omega
    · go_wp2
      go_ret
      rw [rk_end hlt HS.out]
      exact ⟨rfl, box_below hb⟩

set_option maxHeartbeats 400000 in
theorem rankmodel_any (B : Nat) (v : Value) (l : List (Int × Int)) (x : Int) (w : World) (hs : Sps w B v l) (hn : l.length ≤ 1048576) (hB : Bd l) (hx : I64 x) :
    Calls Yapv.prog 13 #[v, .int .i64 x] w fun e w' => e = .returned (.int .u64 (mdL x l 0)) ∧ Below w.heap.size w w' := by
  obtain ⟨a, c, rfl⟩ := hs.slice
  generalize hr : mdL x l 0 = r
  have HR : Hid (mdL x (l.drop 0) 0 = r) := hr
  clear hr
  go_enter Yapv.func13, Yapv.ntmps13
  go_wp2
  go_loopw [5, 6] (fun t i wr => ∃ (j : Nat) (q : Int), j ≤ l.length ∧ i = .int .i64 j ∧ t = .int .u64 q ∧ Hid (mdL x (l.drop j) q = r) ∧ Below w.heap.size w wr)
    (fun _ i _ => l.length - (intOf i).toNat)
  case atStart => exact ⟨0, 0, Nat.zero_le _, rfl, rfl, HR, Below.refl _ _⟩
  case round =>
    clear HR
    obtain ⟨j, q, hj, rfl, rfl, HS, hb⟩ := hrel
    have hsz := hb.size
    by_cases hlt : j < l.length
    · obtain ⟨g, rfl, hBg, hg, c0, c1⟩ := (hs.below hb).cells j hlt
      obtain ⟨i0, i1⟩ := hB.at hlt
      by_cases hq : x < hi l j
      · have hm : Hid ((if x < hi l j then x else hi l j) = x) := if_pos hq
        by_cases hy : lo l j < x
        · go_wp2
          go_roundw
          case rel => exact ⟨j + 1, _, hlt, by go_num, by rw [sizeS_pos (by omega) i0 hx], md_in hlt HS.out hm.out hy, hb.alloc hsz _⟩
          case measure => simp [intOf]; omega
        · go_wp2
          go_roundw
          case rel => exact ⟨j + 1, _, hlt, by go_num, rfl, md_out hlt HS.out hm.out (by omega), hb.alloc hsz _⟩
          case measure => simp [intOf]; omega
      · have hm : Hid ((if x < hi l j then x else hi l j) = hi l j) := if_neg hq
        by_cases hy : lo l j < hi l j
        · go_wp2
          go_roundw
          case rel => exact ⟨j + 1, _, hlt, by go_num, by rw [sizeS_pos (by omega) i0 i1], md_in hlt HS.out hm.out hy, hb.alloc hsz _⟩
          case measure => simp [intOf]; omega
        · go_wp2
          go_roundw
          case rel => exact ⟨j + 1, _, hlt, by go_num, rfl, md_out hlt HS.out hm.out (by omega), hb.alloc hsz _⟩
          case measure => simp [intOf]; omega
    · go_wp2
      go_ret
      rw [md_end hlt HS.out]
      exact ⟨rfl, hb⟩
end Go.Proofs.Ymwhap
