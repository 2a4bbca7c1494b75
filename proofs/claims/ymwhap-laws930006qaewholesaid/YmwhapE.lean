/-
  'Rows.LawS930006QAEWholeSaid', proved.
-/
import Derived.Test.YmwhapRows
import Derived.Test.YmwhapEWalk
import Derived.WalkKit
import Derived.ProofKit
import Derived.OpenShut
import Derived.ShutString
import Derived.ChangeOld
import Derived.Below
namespace Go.Proofs.Ymwhap.lawE
open Go.ChangeShapes Go.WideShapes Go.ChangeAt Go.RowKit

theorem own : ownKnob Yapv.prog.godebug = none := by kernel_rfl
theorem laidOut : laidOutB Yapv.prog = true := by kernel_rfl

set_option maxRecDepth 100000 in
theorem long (x : Int) (a : Option Addr) (n c : Nat) (w : World) (h : 512 < n) :
    Calls Yapv.prog 4 #[.slice a n c, .int .i64 x] w fun e w' => e = .returned (.bool true) ∧ Below w.heap.size w w' := by
  have h' : (512 : Int) < (n : Int) := by omega
  go_enter Yapv.func4, Yapv.ntmps4
  go_wp2
  go_ret
  exact ⟨rfl, Below.refl _ _⟩

theorem walk (x : Int) (a : Option Addr) (c : Nat) (O : List Int) (P : List (Int × Int)) (w : World) (hP : Stp w a O P) (w1 : (Lit.int .i64 x).wf = true) :
    Calls Yapv.prog 4 #[.slice a P.length c, .int .i64 x] w fun e w' => e = .returned (.bool true) ∧ Below w.heap.size w w' := by
  by_cases h : 512 < P.length
  · exact long x a P.length c w h
  · refine lawE_walk a c O P x w (by omega) hP (fun k hk => ?_) ?_
    · obtain ⟨_, _, _, _, _, _, _, _, h1, h2⟩ := hP k hk
      exact ⟨by have := bounds_i64 h1; constructor <;> omega, by have := bounds_i64 h2; constructor <;> omega⟩
    · have := bounds_i64 w1; constructor <;> omega

set_option maxRecDepth 100000 in
theorem lifted (os : Os) (started : os.Started) (H : Type) (enc : TypeId × Value → H) :
    ReturnsInHanded {} Yapv.checked os 4 .any (Rows.lawS930006QAEWholeSpec.pre6 enc Yapv.prog Yapv.f4 Rows.lawS930006QAEWholeRow.domain false) (Rows.lawS930006QAEWholeSpec.post enc Yapv.prog Yapv.f4 false true false false) := by
  refine returnsInHanded_of_change (C := Yapv.checked) own started (by kernel_rfl) Yapv.func4
    (ChangeSpec.witness6 (enc := enc) (C := Yapv.checked) false ⟨#[], #[.slice none 0 0, .int .i64 0], []⟩ 8 (by kernel_rfl) (by kernel_rfl) (by kernel_rfl) (by kernel_rfl)) ?_
  intro W base args ds gs before hval0 hW hcnd _
  have hval : ∀ (j : Nat) t v, Yapv.f4.params[j]? = some t → args[j]? = some v → Value.okWide Yapv.prog W .any base t v := hval0
  have hW' := hW
  obtain ⟨p, q, hA0, hV, rfl, hfz, hnd⟩ := hW
  have hA : DataW.TrodAll enc Yapv.prog W 0 (fun _ => true) true Yapv.f4.params.toList args.toList ds p := hA0
  rw [Yapv.params4] at hA hval
  obtain ⟨v0, vs0, d0, ds0, p0, q0, hargs, rfl, rfl, h0, r0⟩ := trodAll_cons hA
  obtain ⟨v1, vs1, d1, ds1, p1, q1, rfl, rfl, rfl, h1, r1⟩ := trodAll_cons r0
  obtain ⟨rfl, rfl, rfl⟩ := trodAll_nil r1
  obtain rfl : args = #[v0, v1] := by cases args; simp_all
  obtain ⟨rfl, rfl⟩ := trodVars_none hV
  obtain ⟨a0, len0, cap0, rfl⟩ := okWide_slice Yapv.underlying33 (hval 0 33 v0 rfl rfl)
  have k0 := h0
  have lt0 : ∀ x ∈ p0, x.block < W.heap.size := by obtain ⟨m, hm⟩ := k0; exact DataW.trod_lt m _ _ _ hm
  obtain ⟨O, P, rfl, hP⟩ : ∃ (O : List Int) (P : List (Int × Int)), P.length = len0 ∧ Stp W a0 O P := by
    obtain ⟨fuel, hf⟩ := h0
    obtain ⟨O, P, _, e, h⟩ := open_stp Yapv.underlying33 Yapv.underlying35 (by kernel_rfl) rfl rfl rfl (by kernel_rfl) (by kernel_rfl) (by kernel_rfl) Yapv.underlying5 Yapv.underlying2 Yapv.underlying2 hf
    exact ⟨O, P, e, h⟩
  obtain ⟨a1, rfl, rfl, rfl, w1⟩ := open_int Yapv.underlying2 (hval 1 2 v1 rfl rfl) h1
  clear hA0 hval0
  refine (walk a1 a0 cap0 O P W hP w1).mono fun e W' ⟨he, bel⟩ => ?_
  subst he
  exact ⟨_, rfl, _, _, _, [], _, [], hW', trodAll_mk1 (shut_bool Yapv.underlying4 _), (trodAll_cons_mk (Below.trod laidOut (by kernel_rfl) (of_decide_eq_true (by kernel_rfl)) k0 bel lt0) (trodAll_cons_mk (shut_int Yapv.underlying2 w1) trodAll_mk0)), rfl, bel.frame _, fun h => by cases h⟩

theorem over : Rows.lawS930006QAEWholeRow.holds Yapv.pinned (OpenSpec.ofChange Rows.lawS930006QAEWholeSpec) :=
  OpenClaim.holds_of_wide 4 Yapv.f4 rfl rfl rfl rfl rfl rfl rfl ⟨rfl, rfl, rfl, rfl, rfl⟩ rfl rfl rfl rfl rfl (by kernel_rfl) Yapv.func4 (by kernel_rfl)
    (of_decide_eq_true (by kernel_rfl)) (by unfold Func.isWrapper; first | (rw [if_pos (by decide +kernel)]; kernel_rfl) | (rw [if_neg (by decide +kernel)]; exact ⟨rfl, rfl⟩))
    (fun os started H enc _ => lifted os started H enc)

end Go.Proofs.Ymwhap.lawE
namespace Go.Proofs.Ymwhap
/-- THE STATEMENT. -/
theorem lawE_proved : Rows.LawS930006QAEWholeSaid := lawE.over
end Go.Proofs.Ymwhap
