/-
  LawS930006QABWhole, walked.
-/
import Derived.Test.YmwhapNorm
import Derived.Test.YmwhapUni
import Derived.Test.YmwhapUniModel
import Derived.Test.YmwhapSame
import Derived.Deep.RegionWith
import Derived.Deep.DeepCutAuto
namespace Go.Proofs.Ymwhap
open Go.RowKit

theorem Sps.later {w : World} {B : Nat} {v : Value} {l : List (Int × Int)} (h : Sps w B v l) (o : Obj) : Sps (w.alloc o) B v l := World.ownsRow.alloc h o

set_option maxHeartbeats 1000000 in
set_option maxRecDepth 100000 in
theorem lawB_walk (a b : Option Addr) (ca cb : Nat) (S T : List (Int × Int)) (w : World) (hS : S.length ≤ 512) (hT : T.length ≤ 512) (h1 : Prs .i64 .i64 w a S) (h2 : Prs .i64 .i64 w b T)
    (hI1 : ∀ k, k < S.length → I64 (lo S k) ∧ I64 (hi S k)) (hI2 : ∀ k, k < T.length → I64 (lo T k) ∧ I64 (hi T k)) :
    Calls Yapv.prog 5 #[.slice a S.length ca, .slice b T.length cb] w fun e w' => e = .returned (.bool true) ∧ Below w.heap.size w w' := by
  have hl1 : ¬ (512 : Int) < (S.length : Int) := by omega
  have hl2 : ¬ (512 : Int) < (T.length : Int) := by omega
  have HU : Hid (∀ R R' : List (Int × Int), Can R → Can R' → (∀ z, Mem R z ↔ Mem (bu S S.length) z ∨ Mem (bu T T.length) z) → (∀ z, Mem R' z ↔ Mem (nl S S.length ++ nl T T.length) z) → R' = R) := by
    intro R R' c1 c2 m1 m2
    refine can_unique R' R c2 c1 fun z => ?_
    rw [m1 z, m2 z, mem_append, bu_mem, bu_mem]
  have hX := bu_len S S.length
  have hY := bu_len T T.length
  have hCX := bu_can S S.length
  have hCY := bu_can T T.length
  go_enter Yapv.func5, Yapv.ntmps5
  go_wp2_with fail
  refine (build_any a ca S w h1 hI1 hS).mono ?_
  rintro e w1 ⟨vs, rfl, hs1, hb1⟩
  have h2' := h2.below hb1
  generalize bu S S.length = X at *
  obtain ⟨aS, cS, rfl⟩ := hs1.slice
  go_wp2_with fail
  refine (build_any b cb T _ (h2'.below ((Below.refl _ _).alloc (Nat.le_refl _) _)) hI2 hT).mono ?_
  rintro e w2 ⟨vt, rfl, ht2, hb2⟩
  have k2 := cell_later hb2 (a := ⟨w1.heap.size, 0, none⟩) (v := .slice aS X.length cS) (by simp)
  have s2 := (hs1.later _).below hb2
  have B2 : Below w.heap.size w w2 := (hb1.alloc hb1.size _).trans (hb2.mono (by have := hb1.size; simp; omega))
  clear h2' hs1 hb1 hb2
  generalize bu T T.length = Y at *
  obtain ⟨aT, cT, rfl⟩ := ht2.slice
  obtain ⟨k2a, _⟩ := alloc_keep' k2
  go_wp2_with fail
  refine (copyab_any _ _ _ X _ (s2.later _) (by omega) rfl).mono ?_
  rintro e w3 ⟨vb, rfl, b3, hb3⟩
  have k3 := cell_later hb3 (k2a _)
  have l3 := cell_later hb3 (a := ⟨w2.heap.size, 0, none⟩) (v := .slice aT Y.length cT) (by simp)
  have s3 := (s2.later _).below hb3
  have t3 := (ht2.later _).below hb3
  have B3 : Below w.heap.size w w3 := (B2.alloc B2.size _).trans (hb3.mono (by have := B2.size; simp; omega))
  clear k2 k2a s2 ht2 B2 hb3
  obtain ⟨aB, cB, rfl⟩ := b3.slice
  go_wp2_with fail
  refine (copyab_any _ _ _ Y _ t3 (by omega) rfl).mono ?_
  rintro e w4 ⟨vc, rfl, c4, hb4⟩
  have k4 := cell_later hb4 k3
  have l4 := cell_later hb4 l3
  have s4 := s3.below hb4
  have t4 := t3.below hb4
  have b4 := b3.below hb4
  have B4 : Below w.heap.size w w4 := B3.trans (hb4.mono B3.size)
  clear k3 l3 s3 t3 b3 B3 hb4
  obtain ⟨aC, cC, rfl⟩ := c4.slice
  go_wp2_with fail
  refine (union_any _ _ _ _ X Y _ s4 t4 hCX hCY (by omega) (by omega)).mono ?_
  rintro e w5 ⟨vr, R, rfl, r5, hRl, hRc, hRm, hb5⟩
  have k5 := cell_later hb5 k4
  have l5 := cell_later hb5 l4
  have s5 := s4.below hb5
  have t5 := t4.below hb5
  have b5 := b4.below hb5
  have c5 := c4.below hb5
  have B5 : Below w.heap.size w w5 := B4.trans (hb5.mono B4.size)
  have HR : Hid (Can R ∧ ∀ z, Mem R z ↔ Mem X z ∨ Mem Y z) := ⟨hRc, hRm⟩
  clear k4 l4 s4 t4 b4 c4 B4 hb5 hRc hRm
  obtain ⟨aR, cR, rfl⟩ := r5.slice
  go_upto_region 8 with fail
  have u6 : (w5.alloc (Obj.cells #[Value.slice aR R.length cR] 25)).cell? ⟨w5.heap.size, 0, none⟩ = some (.slice aR R.length cR) := by simp
  have bl6 : Below w5.heap.size w5 (w5.alloc (Obj.cells #[Value.slice aR R.length cR] 25)) := (Below.refl _ _).alloc (Nat.le_refl _) _
  have k6 := cell_later bl6 k5
  have l6 := cell_later bl6 l5
  have s6 := s5.below bl6
  have t6 := t5.below bl6
  have b6 := b5.below bl6
  have c6 := c5.below bl6
  have r6 := r5.below bl6
  have B6 : Below w.heap.size w (w5.alloc (Obj.cells #[Value.slice aR R.length cR] 25)) := B5.trans (bl6.mono B5.size)
  have p6 := h1.below B6
  have q6 := h2.below B6
  clear k5 l5 s5 t5 b5 c5 r5 B5 bl6 h1 h2
  generalize w5.alloc (Obj.cells #[Value.slice aR R.length cR] 25) = W at *
  go_cut [37] (fun s wx => s = .bool false ∧ Below W.heap.size W wx)
  case first =>
    go_region_with (first
      | (go_at_call 18; refine (unimodel_any a b ca cb S T _ ?_ ?_ hI1 hI2 hS hT).mono ?_; exact p6; exact q6; rintro e w7 ⟨vm, R', rfl, m7, hC7, hM7, hb7⟩; obtain rfl := HU.out R R' HR.out.1 hC7 HR.out.2 hM7; obtain ⟨am, cm, rfl⟩ := m7.slice; have b7 := ((Below.refl W.heap.size W).drew).trans hb7; have u7 := cell_later b7 u6; have r7 := r6.below b7; clear hC7 hM7 hb7)
      | (go_at_call 17; refine (sameab_any _ _ _ _ _ _ r7 m7 (by omega)).mono ?_; rintro e w8 ⟨rfl, hb8⟩))
    all_goals
      go_wp2_with fail
      go_meet
      exact ⟨rfl, b7.trans (hb8.mono b7.size)⟩
  case rest =>
  obtain ⟨rfl, hb7⟩ := hcut
  have k7 := cell_later hb7 k6
  have l7 := cell_later hb7 l6
  have s7 := s6.below hb7
  have t7 := t6.below hb7
  have b7 := b6.below hb7
  have c7 := c6.below hb7
  have B7 : Below w.heap.size w wc := B6.trans (hb7.mono B6.size)
  clear k6 l6 s6 t6 b6 c6 r6 u6 p6 q6 B6 hb7
  go_wp2_with fail
  refine (sameab_any _ _ _ _ X _ s7 b7 (by omega)).mono ?_
  rintro e w8 ⟨rfl, hb8⟩
  have l8 := cell_later hb8 l7
  have t8 := t7.below hb8
  have c8 := c7.below hb8
  have B8 : Below w.heap.size w w8 := B7.trans (hb8.mono B7.size)
  clear k7 l7 s7 t7 b7 c7 B7 hb8
  go_wp2_with fail
  refine (sameab_any _ _ _ _ Y _ t8 c8 (by omega)).mono ?_
  rintro e w9 ⟨rfl, hb9⟩
  go_wp2
  go_ret
  exact ⟨rfl, B8.trans (hb9.mono B8.size)⟩
end Go.Proofs.Ymwhap
