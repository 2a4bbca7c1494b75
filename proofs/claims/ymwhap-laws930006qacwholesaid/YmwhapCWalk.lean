/-
  LawS930006QACWhole, walked.
-/
import Derived.Test.YmwhapFrom
import Derived.Test.YmwhapInt
import Derived.Test.YmwhapIntModel
import Derived.Test.YmwhapSame
namespace Go.Proofs.Ymwhap
open Go.RowKit

theorem Sps.later {w : World} {B : Nat} {v : Value} {l : List (Int × Int)} (h : Sps w B v l) (o : Obj) : Sps (w.alloc o) B v l := World.ownsRow.alloc h o

set_option maxHeartbeats 1000000 in
set_option maxRecDepth 100000 in
theorem lawC_walk (a b : Option Addr) (ca cb : Nat) (S T : List (Int × Int)) (w : World) (hS : S.length ≤ 512) (hT : T.length ≤ 512) (h1 : Prs .i64 .i64 w a S) (h2 : Prs .i64 .i64 w b T) :
    Calls Yapv.prog 8 #[.slice a S.length ca, .slice b T.length cb] w fun e w' => e = .returned (.bool true) ∧ Below w.heap.size w w' := by
  have hl1 : ¬ (512 : Int) < (S.length : Int) := by omega
  have hl2 : ¬ (512 : Int) < (T.length : Int) := by omega
  have hE : isN ((frm S S.length).length + (frm T T.length).length) (frm S S.length) (frm T T.length) = mdI (frm S S.length) (frm T T.length) := isN_eq _ _ _ (frm_can _ _) (frm_can _ _) (Nat.le_refl _)
  have HE : Hid _ := hE
  clear hE
  have hX := frm_len S S.length
  have hY := frm_len T T.length
  have hR := mdI_length (frm S S.length) (frm T T.length)
  have hR2 : (frm S S.length).length * (frm T T.length).length ≤ 512 * 512 := Nat.mul_le_mul (by omega) (by omega)
  have hR3 : (mdI (frm S S.length) (frm T T.length)).length ≤ 262144 := by omega
  clear hR hR2
  go_enter Yapv.func8, Yapv.ntmps8
  go_wp2_with fail
  refine (from_any a ca S w h1 hS).mono ?_
  rintro e w1 ⟨vs, rfl, hs1, hb1⟩
  have h2' := h2.below hb1
  clear h1 h2
  generalize frm S S.length = X at *
  obtain ⟨aS, cS, rfl⟩ := hs1.slice
  go_wp2_with fail
  refine (from_any b cb T _ (h2'.below ((Below.refl _ _).alloc (Nat.le_refl _) _)) hT).mono ?_
  rintro e w2 ⟨vt, rfl, ht2, hb2⟩
  have k2 := cell_later hb2 (a := ⟨w1.heap.size, 0, none⟩) (v := .slice aS X.length cS) (by simp)
  have s2 := (hs1.later _).below hb2
  have B2 : Below w.heap.size w w2 := (hb1.alloc hb1.size _).trans (hb2.mono (by have := hb1.size; simp; omega))
  clear h2' hs1 hb1 hb2
  generalize frm T T.length = Y at *
  obtain ⟨aT, cT, rfl⟩ := ht2.slice
  obtain ⟨k2a, _⟩ := alloc_keep k2
  go_wp2_with fail
  refine (copyac_any _ _ _ X _ (s2.later _) (by omega) rfl).mono ?_
  rintro e w3 ⟨vb, rfl, b3, hb3⟩
  have k3 := cell_later hb3 (k2a _)
  have l3 := cell_later hb3 (a := ⟨w2.heap.size, 0, none⟩) (v := .slice aT Y.length cT) (by simp)
  have s3 := (s2.later _).below hb3
  have t3 := (ht2.later _).below hb3
  have B3 : Below w.heap.size w w3 := (B2.alloc B2.size _).trans (hb3.mono (by have := B2.size; simp; omega))
  clear k2 k2a s2 ht2 B2 hb3
  obtain ⟨aB, cB, rfl⟩ := b3.slice
  go_wp2_with fail
  refine (copyac_any _ _ _ Y _ t3 (by omega) rfl).mono ?_
  rintro e w4 ⟨vc, rfl, c4, hb4⟩
  have k4 := cell_later hb4 k3
  have l4 := cell_later hb4 l3
  have s4 := s3.below hb4
  have t4 := t3.below hb4
  have b4 := b3.below hb4
  have B4 : Below w.heap.size w w4 := B3.trans (hb4.mono B3.size)
  clear k3 l3 s3 t3 b3 B3 hb4
  obtain ⟨aC, cC, rfl⟩ := c4.slice
  go_wp2_with fail
  refine (intmodel_any _ _ _ _ X Y _ b4 c4 (by omega) (by omega)).mono ?_
  rintro e w5 ⟨vd, rfl, d5, hb5⟩
  have k5 := cell_later hb5 k4
  have l5 := cell_later hb5 l4
  have s5 := s4.below hb5
  have t5 := t4.below hb5
  have b5 := b4.below hb5
  have c5 := c4.below hb5
  have B5 : Below w.heap.size w w5 := B4.trans (hb5.mono B4.size)
  clear k4 l4 s4 t4 b4 c4 B4 hb5
  obtain ⟨aD, cD, rfl⟩ := d5.slice
  go_wp2_with fail
  refine (int_any _ _ _ _ X Y _ s5 t5 (by omega) (by omega)).mono ?_
  rintro e w6 ⟨vr, rfl, r6, hb6⟩
  rw [HE.out] at r6
  have k6 := cell_later hb6 k5
  have l6 := cell_later hb6 l5
  have s6 := s5.below hb6
  have t6 := t5.below hb6
  have b6 := b5.below hb6
  have c6 := c5.below hb6
  have d6 := d5.below hb6
  have B6 : Below w.heap.size w w6 := B5.trans (hb6.mono B5.size)
  clear k5 l5 s5 t5 b5 c5 d5 B5 hb6
  generalize mdI X Y = R at *
  obtain ⟨aR, cR, rfl⟩ := r6.slice
  obtain ⟨k6a, _⟩ := alloc_keep k6
  obtain ⟨l6a, _⟩ := alloc_keep l6
  go_wp2_with fail
  refine (sameac_any _ _ _ _ R _ (r6.later _) (d6.later _) (by omega)).mono ?_
  rintro e w7 ⟨rfl, hb7⟩
  have k7 := cell_later hb7 (k6a _)
  have l7 := cell_later hb7 (l6a _)
  have s7 := (s6.later _).below hb7
  have t7 := (t6.later _).below hb7
  have b7 := (b6.later _).below hb7
  have c7 := (c6.later _).below hb7
  have B7 : Below w.heap.size w w7 := (B6.alloc B6.size _).trans (hb7.mono (by have := B6.size; simp; omega))
  clear k6 l6 k6a l6a s6 t6 b6 c6 d6 r6 B6 hb7
  go_wp2_with fail
  refine (sameac_any _ _ _ _ X _ s7 b7 (by omega)).mono ?_
  rintro e w8 ⟨rfl, hb8⟩
  have l8 := cell_later hb8 l7
  have t8 := t7.below hb8
  have c8 := c7.below hb8
  have B8 : Below w.heap.size w w8 := B7.trans (hb8.mono B7.size)
  clear k7 l7 s7 t7 b7 c7 B7 hb8
  go_wp2_with fail
  refine (sameac_any _ _ _ _ Y _ t8 c8 (by omega)).mono ?_
  rintro e w9 ⟨rfl, hb9⟩
  go_wp2
  go_ret
  exact ⟨rfl, B8.trans (hb9.mono B8.size)⟩
end Go.Proofs.Ymwhap
