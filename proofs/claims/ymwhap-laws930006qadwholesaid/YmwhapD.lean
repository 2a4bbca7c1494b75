/-
  'Rows.LawS930006QADWholeSaid', proved.
-/
import Derived.Test.YmwhapRows
import Derived.Test.YmwhapDWalk
import Derived.WalkKit
import Derived.ProofKit
import Derived.OpenShut
import Derived.ShutString
import Derived.ChangeOld
import Derived.Below
namespace Go.Proofs.Ymwhap.lawD
open Go.ChangeShapes Go.WideShapes Go.ChangeAt Go.RowKit

theorem own : ownKnob Yapv.prog.godebug = none := by kernel_rfl
theorem laidOut : laidOutB Yapv.prog = true := by kernel_rfl

set_option maxRecDepth 100000 in
theorem long (a : Option Addr) (n c : Nat) (w : World) (h : 300 < n) :
    Calls Yapv.prog 6 #[.slice a n c] w fun e w' => e = .returned (.bool true) ∧ Below w.heap.size w w' := by
  have h' : (300 : Int) < (n : Int) := by omega
  go_enter Yapv.func6, Yapv.ntmps6
  go_wp2
  go_ret
  exact ⟨rfl, Below.refl _ _⟩

theorem walk (a : Option Addr) (c : Nat) (O : List Int) (P : List (Int × Int)) (w : World) (hP : Stp w a O P) :
    Calls Yapv.prog 6 #[.slice a P.length c] w fun e w' => e = .returned (.bool true) ∧ Below w.heap.size w w' := by
  by_cases h : 300 < P.length
  · exact long a P.length c w h
  · refine lawD_walk a c O P w (by omega) hP (fun k hk => ?_)
    obtain ⟨_, _, _, _, _, _, _, _, h1, h2⟩ := hP k hk
    have b1 := bounds_i64 h1
    have b2 := bounds_i64 h2
    rw [← lo_nz hk, ← hi_nz hk]
    unfold I64
    by_cases c : hi P k < lo P k
    · rw [if_pos c, if_pos c]
      omega
    · rw [if_neg c, if_neg c]
      omega

set_option maxRecDepth 100000 in
theorem lifted (os : Os) (started : os.Started) (H : Type) (enc : TypeId × Value → H) :
    ReturnsInHanded {} Yapv.checked os 6 .any (Rows.lawS930006QADWholeSpec.pre6 enc Yapv.prog Yapv.f6 Rows.lawS930006QADWholeRow.domain false) (Rows.lawS930006QADWholeSpec.post enc Yapv.prog Yapv.f6 false true false false) := by
  refine returnsInHanded_of_change (C := Yapv.checked) own started (by kernel_rfl) Yapv.func6
    (ChangeSpec.witness6 (enc := enc) (C := Yapv.checked) false ⟨#[], #[.slice none 0 0], []⟩ 8 (by kernel_rfl) (by kernel_rfl) (by kernel_rfl) (by kernel_rfl)) ?_
  intro W base args ds gs before hval0 hW hcnd _
  have hval : ∀ (j : Nat) t v, Yapv.f6.params[j]? = some t → args[j]? = some v → Value.okWide Yapv.prog W .any base t v := hval0
  have hW' := hW
  obtain ⟨p, q, hA0, hV, rfl, hfz, hnd⟩ := hW
  have hA : DataW.TrodAll enc Yapv.prog W 0 (fun _ => true) true Yapv.f6.params.toList args.toList ds p := hA0
  rw [Yapv.params6] at hA hval
  obtain ⟨v0, vs0, d0, ds0, p0, q0, hargs, rfl, rfl, h0, r0⟩ := trodAll_cons hA
  obtain ⟨rfl, rfl, rfl⟩ := trodAll_nil r0
  obtain rfl : args = #[v0] := by cases args; simp_all
  obtain ⟨rfl, rfl⟩ := trodVars_none hV
  obtain ⟨a0, len0, cap0, rfl⟩ := okWide_slice Yapv.underlying45 (hval 0 45 v0 rfl rfl)
  have k0 := h0
  have lt0 : ∀ x ∈ p0, x.block < W.heap.size := by obtain ⟨m, hm⟩ := k0; exact DataW.trod_lt m _ _ _ hm
  obtain ⟨O, P, rfl, hP⟩ : ∃ (O : List Int) (P : List (Int × Int)), P.length = len0 ∧ Stp W a0 O P := by
    obtain ⟨fuel, hf⟩ := h0
    obtain ⟨O, P, _, e, h⟩ := open_stp Yapv.underlying45 Yapv.underlying48 (by kernel_rfl) rfl rfl rfl (by kernel_rfl) (by kernel_rfl) (by kernel_rfl) Yapv.underlying5 Yapv.underlying2 Yapv.underlying2 hf
    exact ⟨O, P, e, h⟩
  clear hA0 hval0
  refine (walk a0 cap0 O P W hP).mono fun e W' ⟨he, bel⟩ => ?_
  subst he
  exact ⟨_, rfl, _, _, _, [], _, [], hW', trodAll_mk1 (shut_bool Yapv.underlying4 _), (trodAll_cons_mk (Below.trod laidOut (by kernel_rfl) (of_decide_eq_true (by kernel_rfl)) k0 bel lt0) trodAll_mk0), rfl, bel.frame _, fun h => by cases h⟩

theorem over : Rows.lawS930006QADWholeRow.holds Yapv.pinned (OpenSpec.ofChange Rows.lawS930006QADWholeSpec) :=
  OpenClaim.holds_of_wide 6 Yapv.f6 rfl rfl rfl rfl rfl rfl rfl ⟨rfl, rfl, rfl, rfl, rfl⟩ rfl rfl rfl rfl rfl (by kernel_rfl) Yapv.func6 (by kernel_rfl)
    (of_decide_eq_true (by kernel_rfl)) (by unfold Func.isWrapper; first | (rw [if_pos (by decide +kernel)]; kernel_rfl) | (rw [if_neg (by decide +kernel)]; exact ⟨rfl, rfl⟩))
    (fun os started H enc _ => lifted os started H enc)

end Go.Proofs.Ymwhap.lawD
namespace Go.Proofs.Ymwhap
/-- THE STATEMENT. -/
theorem lawD_proved : Rows.LawS930006QADWholeSaid := lawD.over
end Go.Proofs.Ymwhap
