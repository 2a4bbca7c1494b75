/-
  'Rows.LawS930006QABWholeSaid', proved.
-/
import Derived.Test.YmwhapRows
import Derived.Test.YmwhapBWalk
import Derived.WalkKit
import Derived.ProofKit
import Derived.OpenShut
import Derived.ShutString
import Derived.ChangeOld
import Derived.Below
namespace Go.Proofs.Ymwhap.lawB
open Go.ChangeShapes Go.WideShapes Go.ChangeAt Go.RowKit

theorem own : ownKnob Yapv.prog.godebug = none := by kernel_rfl
theorem laidOut : laidOutB Yapv.prog = true := by kernel_rfl

set_option maxRecDepth 100000 in
theorem long (a b : Option Addr) (n m c d : Nat) (w : World) (h : 512 < n ∨ 512 < m) :
    Calls Yapv.prog 5 #[.slice a n c, .slice b m d] w fun e w' => e = .returned (.bool true) ∧ Below w.heap.size w w' := by
  by_cases h1 : 512 < n
  · have h' : (512 : Int) < (n : Int) := by omega
    go_enter Yapv.func5, Yapv.ntmps5
    go_wp2
    go_ret
    exact ⟨rfl, Below.refl _ _⟩
  · have h' : ¬ (512 : Int) < (n : Int) := by omega
    have h'' : (512 : Int) < (m : Int) := by omega
    go_enter Yapv.func5, Yapv.ntmps5
    go_wp2
    go_ret
    exact ⟨rfl, Below.refl _ _⟩

theorem walk (a b : Option Addr) (c d : Nat) (S T : List (Int × Int)) (w : World) (hS : Prs .i64 .i64 w a S) (hT : Prs .i64 .i64 w b T) :
    Calls Yapv.prog 5 #[.slice a S.length c, .slice b T.length d] w fun e w' => e = .returned (.bool true) ∧ Below w.heap.size w w' := by
  by_cases h : 512 < S.length ∨ 512 < T.length
  · exact long a b S.length T.length c d w h
  · refine lawB_walk a b c d S T w (by omega) (by omega) hS hT (fun k hk => ?_) (fun k hk => ?_)
    · obtain ⟨_, _, _, _, _, _, h1, h2⟩ := hS k hk
      exact ⟨by have := bounds_i64 h1; constructor <;> omega, by have := bounds_i64 h2; constructor <;> omega⟩
    · obtain ⟨_, _, _, _, _, _, h1, h2⟩ := hT k hk
      exact ⟨by have := bounds_i64 h1; constructor <;> omega, by have := bounds_i64 h2; constructor <;> omega⟩

set_option maxRecDepth 100000 in
theorem lifted (os : Os) (started : os.Started) (H : Type) (enc : TypeId × Value → H) :
    ReturnsInHanded {} Yapv.checked os 5 .any (Rows.lawS930006QABWholeSpec.pre6 enc Yapv.prog Yapv.f5 Rows.lawS930006QABWholeRow.domain false) (Rows.lawS930006QABWholeSpec.post enc Yapv.prog Yapv.f5 false true false false) := by
  refine returnsInHanded_of_change (C := Yapv.checked) own started (by kernel_rfl) Yapv.func5
    (ChangeSpec.witness6 (enc := enc) (C := Yapv.checked) false ⟨#[], #[.slice none 0 0, .slice none 0 0], []⟩ 8 (by kernel_rfl) (by kernel_rfl) (by kernel_rfl) (by kernel_rfl)) ?_
  intro W base args ds gs before hval0 hW hcnd _
  have hval : ∀ (j : Nat) t v, Yapv.f5.params[j]? = some t → args[j]? = some v → Value.okWide Yapv.prog W .any base t v := hval0
  have hW' := hW
  obtain ⟨p, q, hA0, hV, rfl, hfz, hnd⟩ := hW
  have hA : DataW.TrodAll enc Yapv.prog W 0 (fun _ => true) true Yapv.f5.params.toList args.toList ds p := hA0
  rw [Yapv.params5] at hA hval
  obtain ⟨v0, vs0, d0, ds0, p0, q0, hargs, rfl, rfl, h0, r0⟩ := trodAll_cons hA
  obtain ⟨v1, vs1, d1, ds1, p1, q1, rfl, rfl, rfl, h1, r1⟩ := trodAll_cons r0
  obtain ⟨rfl, rfl, rfl⟩ := trodAll_nil r1
  obtain rfl : args = #[v0, v1] := by cases args; simp_all
  obtain ⟨rfl, rfl⟩ := trodVars_none hV
  obtain ⟨a0, len0, cap0, rfl⟩ := okWide_slice Yapv.underlying23 (hval 0 23 v0 rfl rfl)
  have k0 := h0
  have lt0 : ∀ x ∈ p0, x.block < W.heap.size := by obtain ⟨m, hm⟩ := k0; exact DataW.trod_lt m _ _ _ hm
  obtain ⟨S, rfl, hS⟩ : ∃ S : List (Int × Int), S.length = len0 ∧ Prs .i64 .i64 W a0 S := by
    obtain ⟨fuel, hf⟩ := h0
    exact open_prs Yapv.underlying23 Yapv.underlying31 (by kernel_rfl) rfl rfl (by kernel_rfl) (by kernel_rfl) Yapv.underlying2 Yapv.underlying2 hf
  obtain ⟨a1, len1, cap1, rfl⟩ := okWide_slice Yapv.underlying23 (hval 1 23 v1 rfl rfl)
  have k1 := h1
  have lt1 : ∀ x ∈ p1, x.block < W.heap.size := by obtain ⟨m, hm⟩ := k1; exact DataW.trod_lt m _ _ _ hm
  obtain ⟨T, rfl, hT⟩ : ∃ T : List (Int × Int), T.length = len1 ∧ Prs .i64 .i64 W a1 T := by
    obtain ⟨fuel, hf⟩ := h1
    exact open_prs Yapv.underlying23 Yapv.underlying31 (by kernel_rfl) rfl rfl (by kernel_rfl) (by kernel_rfl) Yapv.underlying2 Yapv.underlying2 hf
  clear hA0 hval0
  refine (walk a0 a1 cap0 cap1 S T W hS hT).mono fun e W' ⟨he, bel⟩ => ?_
  subst he
  exact ⟨_, rfl, _, _, _, [], _, [], hW', trodAll_mk1 (shut_bool Yapv.underlying4 _), (trodAll_cons_mk (Below.trod laidOut (by kernel_rfl) (of_decide_eq_true (by kernel_rfl)) k0 bel lt0) (trodAll_cons_mk (Below.trod laidOut (by kernel_rfl) (of_decide_eq_true (by kernel_rfl)) k1 bel lt1) trodAll_mk0)), rfl, bel.frame _, fun h => by cases h⟩

theorem over : Rows.lawS930006QABWholeRow.holds Yapv.pinned (OpenSpec.ofChange Rows.lawS930006QABWholeSpec) :=
  OpenClaim.holds_of_wide 5 Yapv.f5 rfl rfl rfl rfl rfl rfl rfl ⟨rfl, rfl, rfl, rfl, rfl⟩ rfl rfl rfl rfl rfl (by kernel_rfl) Yapv.func5 (by kernel_rfl)
    (of_decide_eq_true (by kernel_rfl)) (by unfold Func.isWrapper; first | (rw [if_pos (by decide +kernel)]; kernel_rfl) | (rw [if_neg (by decide +kernel)]; exact ⟨rfl, rfl⟩))
    (fun os started H enc _ => lifted os started H enc)

end Go.Proofs.Ymwhap.lawB
namespace Go.Proofs.Ymwhap
/-- THE STATEMENT. -/
theorem lawB_proved : Rows.LawS930006QABWholeSaid := lawB.over
end Go.Proofs.Ymwhap
