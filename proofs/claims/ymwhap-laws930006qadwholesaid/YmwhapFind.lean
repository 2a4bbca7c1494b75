/-
  (Set).search and (Set).Contains, walked.
-/
import Derived.Test.YmwhapCan
import Derived.Test.YmwhapLaws
import Derived.Deep.QuietTactic
import Derived.BigQuiet
import Derived.WalkLawsBesides
namespace Go.Proofs.Ymwhap
open Go.RowKit

set_option maxHeartbeats 400000 in
theorem search_any (B : Nat) (v : Value) (l : List (Int × Int)) (x : Int) (w : World) (hs : Sps w B v l) (hn : l.length ≤ 1048576) (hc : Can l) :
    Calls Yapv.prog 30 #[.agg #[v], .int .i64 x] w fun e w' => ∃ r : Nat, e = .returned (.int .i64 r) ∧ r ≤ l.length ∧ (∀ k, k < r → hi l k ≤ x) ∧ (∀ k, r ≤ k → k < l.length → x < hi l k) ∧ Below w.heap.size w w' := by
  obtain ⟨a, c, rfl⟩ := hs.slice
  go_enter Yapv.func30, Yapv.ntmps30
  go_wp2
  go_quiet (fail)
  go_wp2
  go_loopw [5, 6] (fun i j wr => ∃ p q : Nat, p ≤ q ∧ q ≤ l.length ∧ i = .int .i64 p ∧ j = .int .i64 q ∧ Hid ((∀ k, k < p → hi l k ≤ x) ∧ (∀ k, q ≤ k → k < l.length → x < hi l k)) ∧ Below (w.heap.size + 1) (w.alloc (.cells #[.slice a l.length c] 25)) wr)
    (fun i j _ => (intOf j).toNat - (intOf i).toNat)
  case atStart => exact ⟨0, l.length, Nat.zero_le _, Nat.le_refl _, rfl, rfl, ⟨fun k hk => by omega, fun k h1 h2 => by omega⟩, below_drewN (Below.refl _ _) _⟩
  case round =>
    obtain ⟨p, q, hpq, hq, rfl, rfl, HE, hb⟩ := hrel
    have hbox := box_cell hb
    by_cases hlt : p < q
    · obtain ⟨g, rfl, hB, hg, c0, c1⟩ := (hs.below (box_below hb)).cells (p + (q - p) / 2) (by omega)
      by_cases hx : x < hi l (p + (q - p) / 2)
      · go_wp2
        go_roundw
        case rel =>
          refine ⟨p, p + (q - p) / 2, by omega, by omega, rfl, by go_num, ⟨HE.out.1, fun k h1 h2 => ?_⟩, hb⟩
          by_cases e : k = p + (q - p) / 2
          · rw [e]; exact hx
          · have h3 := can_apart hc (j := p + (q - p) / 2) (k := k) (by omega) h2
            have h4 := can_lt hc h2
            omega
        case measure => simp [intOf]; omega
      · go_wp2
        go_roundw
        case rel =>
          refine ⟨p + (q - p) / 2 + 1, q, by omega, by omega, by go_num, rfl, ⟨fun k hk => ?_, HE.out.2⟩, hb⟩
          by_cases e : k = p + (q - p) / 2
          · rw [e]; omega
          · have h3 := can_apart hc (j := k) (k := p + (q - p) / 2) (by omega) (by omega)
            have h4 := can_lt hc (k := p + (q - p) / 2) (by omega)
            omega
        case measure => simp [intOf]; omega
    · obtain rfl : p = q := by omega
      go_wp2
      go_ret
      exact ⟨p, rfl, hq, HE.out.1, HE.out.2, box_below hb⟩

/-- Membership as a Bool. -/
def memB (l : List (Int × Int)) (x : Int) : Bool := l.any fun p => decide (p.1 ≤ x) && decide (x < p.2)
theorem memB_iff (l : List (Int × Int)) (x : Int) : memB l x = true ↔ Mem l x := by
  simp [memB, Mem]
theorem found {l : List (Int × Int)} {x : Int} (hc : Can l) {r : Nat} (h1 : ∀ k, k < r → hi l k ≤ x) (h2 : ∀ k, r ≤ k → k < l.length → x < hi l k) : memB l x = (decide (r < l.length) && decide (lo l r ≤ x)) := by
  rw [Bool.eq_iff_iff, memB_iff, mem_iff, Bool.and_eq_true, decide_eq_true_iff, decide_eq_true_iff]
  constructor
  · rintro ⟨k, hk, ha, hb⟩
    have hkr : r ≤ k := by
      by_cases h : k < r
      · have := h1 k h; omega
      · omega
    have e : k = r := by
      by_cases h : k = r
      · exact h
      · have h3 := can_apart hc (j := r) (k := k) (by omega) hk
        have h4 := h2 r (Nat.le_refl _) (by omega)
        omega
    rw [← e]
    exact ⟨hk, ha⟩
  · rintro ⟨ha, hb⟩
    exact ⟨r, ha, hb, h2 r (Nat.le_refl _) ha⟩
theorem ret_bool {a b : Bool} (h : a = b) : Ending.returned (.bool a) = .returned (.bool b) := by rw [h]

set_option maxHeartbeats 400000 in
theorem contains_any (B : Nat) (v : Value) (l : List (Int × Int)) (x : Int) (w : World) (hs : Sps w B v l) (hn : l.length ≤ 1048576) (hc : Can l) :
    Calls Yapv.prog 11 #[.agg #[v], .int .i64 x] w fun e w' => e = .returned (.bool (memB l x)) ∧ Below w.heap.size w w' := by
  obtain ⟨a, c, rfl⟩ := hs.slice
  generalize hm : memB l x = m
  have HM : Hid (memB l x = m) := hm
  clear hm
  go_enter Yapv.func11, Yapv.ntmps11
  go_wp2_with fail
  refine (search_any B _ l x _ (World.ownsRow.alloc hs _) hn hc).mono ?_
  rintro e w1 ⟨r, rfl, hr, h1, h2, hb⟩
  simp only [World.size_alloc] at hb
  have HF : Hid (m = (decide (r < l.length) && decide (lo l r ≤ x))) := HM.out.symm.trans (found hc h1 h2)
  clear h1 h2 HM
  have hbox := box_cell hb
  by_cases hlt : r < l.length
  · obtain ⟨g, rfl, hB, hg, c0, c1⟩ := (hs.below (box_below hb)).cells r hlt
    go_wp2
    go_ret
    exact ⟨ret_bool (by rw [HF.out, decide_eq_true hlt, Bool.true_and]), box_below hb⟩
  · go_wp2
    go_ret
    exact ⟨ret_bool (by rw [HF.out, decide_eq_false hlt, Bool.false_and]), box_below hb⟩
end Go.Proofs.Ymwhap
