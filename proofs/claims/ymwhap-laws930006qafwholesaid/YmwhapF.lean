/-
  'Rows.LawS930006QAFWholeSaid', proved.
-/
import Derived.Test.YmwhapRows
import Derived.Test.YmwhapFWalk
import Derived.Test.YmwhapOpen
import Derived.WalkKit
import Derived.ProofKit
import Derived.OpenShut
import Derived.ShutString
import Derived.ChangeOld
import Derived.Below
namespace Go.Proofs.Ymwhap.lawF
open Go.ChangeShapes Go.WideShapes Go.ChangeAt Go.RowKit

theorem own : ownKnob Yapv.prog.godebug = none := by kernel_rfl
theorem laidOut : laidOutB Yapv.prog = true := by kernel_rfl

theorem byte_bd {n : Int} (h : (Lit.int .u8 n).wf = true) : 0 ≤ n ∧ n ≤ 255 := by
  have := bounds_u8 h
  omega

set_option maxRecDepth 100000 in
theorem long (st k : Int) (a : Option Addr) (n c : Nat) (w : World) (h : 1024 < n) :
    Calls Yapv.prog 7 #[.int .i64 st, .slice a n c, .int .u64 k] w fun e w' => e = .returned (.bool true) ∧ Below w.heap.size w w' := by
  have h' : (1024 : Int) < (n : Int) := by omega
  go_enter Yapv.func7, Yapv.ntmps7
  go_wp2
  go_ret
  exact ⟨rfl, Below.refl _ _⟩

theorem walk (st k : Int) (a : Option Addr) (c : Nat) (P : List (Int × Int)) (w : World) (w0 : (Lit.int .i64 st).wf = true) (w2 : (Lit.int .u64 k).wf = true) (hP : Prs .u8 .u8 w a P) :
    Calls Yapv.prog 7 #[.int .i64 st, .slice a P.length c, .int .u64 k] w fun e w' => e = .returned (.bool true) ∧ Below w.heap.size w w' := by
  by_cases h : 1024 < P.length
  · exact long st k a P.length c w h
  · have b0 := bounds_i64 w0
    have b2 := bounds_u64 w2
    refine lawF_walk st a c P k w ⟨by omega, by omega⟩ (by omega) (by omega) (by omega) ?_ ?_
    · intro j hj
      obtain ⟨b, o, e, h1, h2, h3, _⟩ := hP j hj
      exact ⟨b, o, e, h1, h2, h3⟩
    · intro j hj
      obtain ⟨b, o, e, h1, h2, h3, h4, h5⟩ := hP j hj
      have := byte_bd h4
      have := byte_bd h5
      omega

set_option maxRecDepth 100000 in
theorem lifted (os : Os) (started : os.Started) (H : Type) (enc : TypeId × Value → H) :
    ReturnsInHanded {} Yapv.checked os 7 .any (Rows.lawS930006QAFWholeSpec.pre6 enc Yapv.prog Yapv.f7 Rows.lawS930006QAFWholeRow.domain false) (Rows.lawS930006QAFWholeSpec.post enc Yapv.prog Yapv.f7 false true false false) := by
  refine returnsInHanded_of_change (C := Yapv.checked) own started (by kernel_rfl) Yapv.func7
    (ChangeSpec.witness6 (enc := enc) (C := Yapv.checked) false ⟨#[], #[.int .i64 0, .slice none 0 0, .int .u64 0], []⟩ 8 (by kernel_rfl) (by kernel_rfl) (by kernel_rfl) (by kernel_rfl)) ?_
  intro W base args ds gs before hval0 hW hcnd _
  have hval : ∀ (j : Nat) t v, Yapv.f7.params[j]? = some t → args[j]? = some v → Value.okWide Yapv.prog W .any base t v := hval0
  have hW' := hW
  obtain ⟨p, q, hA0, hV, rfl, hfz, hnd⟩ := hW
  have hA : DataW.TrodAll enc Yapv.prog W 0 (fun _ => true) true Yapv.f7.params.toList args.toList ds p := hA0
  rw [Yapv.params7] at hA hval
  obtain ⟨v0, vs0, d0, ds0, p0, q0, hargs, rfl, rfl, h0, r0⟩ := trodAll_cons hA
  obtain ⟨v1, vs1, d1, ds1, p1, q1, rfl, rfl, rfl, h1, r1⟩ := trodAll_cons r0
  obtain ⟨v2, vs2, d2, ds2, p2, q2, rfl, rfl, rfl, h2, r2⟩ := trodAll_cons r1
  obtain ⟨rfl, rfl, rfl⟩ := trodAll_nil r2
  obtain rfl : args = #[v0, v1, v2] := by cases args; simp_all
  obtain ⟨rfl, rfl⟩ := trodVars_none hV
  obtain ⟨a0, rfl, rfl, rfl, w0⟩ := open_int Yapv.underlying2 (hval 0 2 v0 rfl rfl) h0
  obtain ⟨a1, len1, cap1, rfl⟩ := okWide_slice Yapv.underlying52 (hval 1 52 v1 rfl rfl)
  have k1 := h1
  have lt1 : ∀ x ∈ p1, x.block < W.heap.size := by obtain ⟨m, hm⟩ := k1; exact DataW.trod_lt m _ _ _ hm
  obtain ⟨P, rfl, hP⟩ : ∃ P : List (Int × Int), P.length = len1 ∧ Prs .u8 .u8 W a1 P := by
    obtain ⟨fuel, hf⟩ := h1
    exact open_prs Yapv.underlying52 Yapv.underlying54 (by kernel_rfl) rfl rfl (by kernel_rfl) (by kernel_rfl) Yapv.underlying5 Yapv.underlying5 hf
  obtain ⟨a2, rfl, rfl, rfl, w2⟩ := open_int Yapv.underlying36 (hval 2 36 v2 rfl rfl) h2
  clear hA0 hval0
  refine (walk a0 a2 a1 cap1 P W w0 w2 hP).mono fun e W' ⟨he, bel⟩ => ?_
  subst he
  exact ⟨_, rfl, _, _, _, [], _, [], hW', trodAll_mk1 (shut_bool Yapv.underlying4 _), (trodAll_cons_mk (shut_int Yapv.underlying2 w0) (trodAll_cons_mk (Below.trod laidOut (by kernel_rfl) (of_decide_eq_true (by kernel_rfl)) k1 bel lt1) (trodAll_cons_mk (shut_int Yapv.underlying36 w2) trodAll_mk0))), rfl, bel.frame _, fun h => by cases h⟩

theorem over : Rows.lawS930006QAFWholeRow.holds Yapv.pinned (OpenSpec.ofChange Rows.lawS930006QAFWholeSpec) :=
  OpenClaim.holds_of_wide 7 Yapv.f7 rfl rfl rfl rfl rfl rfl rfl ⟨rfl, rfl, rfl, rfl, rfl⟩ rfl rfl rfl rfl rfl (by kernel_rfl) Yapv.func7 (by kernel_rfl)
    (of_decide_eq_true (by kernel_rfl)) (by unfold Func.isWrapper; first | (rw [if_pos (by decide +kernel)]; kernel_rfl) | (rw [if_neg (by decide +kernel)]; exact ⟨rfl, rfl⟩))
    (fun os started H enc _ => lifted os started H enc)

end Go.Proofs.Ymwhap.lawF
namespace Go.Proofs.Ymwhap
/-- THE STATEMENT. -/
theorem lawF_proved : Rows.LawS930006QAFWholeSaid := lawF.over
end Go.Proofs.Ymwhap
