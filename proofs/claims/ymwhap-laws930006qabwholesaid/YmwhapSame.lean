/-
  The two functions that compare two lists of spans, walked at two lists that are the same.
-/
import Derived.Test.YmwhapLaws
import Derived.Deep.QuietTactic
import Derived.BigQuiet
import Derived.WalkLawsBesides
namespace Go.Proofs.Ymwhap
open Go.RowKit

set_option maxHeartbeats 400000 in
theorem sameac_any (B1 B2 : Nat) (v1 v2 : Value) (l : List (Int × Int)) (w : World) (h1 : Sps w B1 v1 l) (h2 : Sps w B2 v2 l) (hn : l.length ≤ 1048576) :
    Calls Yapv.prog 29 #[v1, v2] w fun e w' => e = .returned (.bool true) ∧ Below w.heap.size w w' := by
  obtain ⟨a1, c1, rfl⟩ := h1.slice
  obtain ⟨a2, c2, rfl⟩ := h2.slice
  go_enter Yapv.func29, Yapv.ntmps29
  go_wp2
  go_loopw [5] (fun i wx => ∃ j : Nat, j ≤ l.length ∧ i = .int .i64 j ∧ Below w.heap.size w wx) (fun i _ => l.length - (intOf i).toNat)
  case atStart => exact ⟨0, Nat.zero_le _, rfl, Below.refl _ _⟩
  case round =>
    obtain ⟨j, hj, rfl, hbx⟩ := hrel
    by_cases hlt : j < l.length
    · obtain ⟨g1, rfl, _, g1l, d0, d1⟩ := (h1.below hbx).cells j hlt
      obtain ⟨g2, rfl, _, g2l, e0, e1⟩ := (h2.below hbx).cells j hlt
      have hlt' : (j : Int) < (l.length : Int) := by omega
      go_wp2
      go_quiet (fail)
      go_wp2
      go_roundw
      case rel => exact ⟨j + 1, hlt, by go_num, below_drewN hbx _⟩
      case measure => simp [intOf]; omega
    · go_wp2
      go_ret
      exact ⟨rfl, hbx⟩

set_option maxHeartbeats 400000 in
theorem sameab_any (B1 B2 : Nat) (v1 v2 : Value) (l : List (Int × Int)) (w : World) (h1 : Sps w B1 v1 l) (h2 : Sps w B2 v2 l) (hn : l.length ≤ 1048576) :
    Calls Yapv.prog 17 #[v1, v2] w fun e w' => e = .returned (.bool true) ∧ Below w.heap.size w w' := by
  obtain ⟨a1, c1, rfl⟩ := h1.slice
  obtain ⟨a2, c2, rfl⟩ := h2.slice
  go_enter Yapv.func17, Yapv.ntmps17
  go_wp2
  go_loopw [5] (fun i wx => ∃ j : Nat, j ≤ l.length ∧ i = .int .i64 j ∧ Below w.heap.size w wx) (fun i _ => l.length - (intOf i).toNat)
  case atStart => exact ⟨0, Nat.zero_le _, rfl, Below.refl _ _⟩
  case round =>
    obtain ⟨j, hj, rfl, hbx⟩ := hrel
    by_cases hlt : j < l.length
    · obtain ⟨g1, rfl, _, g1l, d0, d1⟩ := (h1.below hbx).cells j hlt
      obtain ⟨g2, rfl, _, g2l, e0, e1⟩ := (h2.below hbx).cells j hlt
      have hlt' : (j : Int) < (l.length : Int) := by omega
      go_wp2
      go_quiet (fail)
      go_wp2
      go_roundw
      case rel => exact ⟨j + 1, hlt, by go_num, below_drewN hbx _⟩
      case measure => simp [intOf]; omega
    · go_wp2
      go_ret
      exact ⟨rfl, hbx⟩
end Go.Proofs.Ymwhap
