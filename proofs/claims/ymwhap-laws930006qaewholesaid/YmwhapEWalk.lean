/-
  LawS930006QAEWhole, walked.
-/
import Derived.Test.YmwhapVar
import Derived.Test.YmwhapRank
namespace Go.Proofs.Ymwhap
open Go.RowKit

set_option maxHeartbeats 1000000 in
set_option maxRecDepth 100000 in
theorem lawE_walk (a : Option Addr) (c : Nat) (O : List Int) (P : List (Int × Int)) (x : Int) (w : World) (hl : P.length ≤ 512) (hin : Stp w a O P) (hP : ∀ k, k < P.length → I64 (lo P k) ∧ I64 (hi P k)) (hx : I64 x) :
    Calls Yapv.prog 4 #[.slice a P.length c, .int .i64 x] w fun e w' => e = .returned (.bool true) ∧ Below w.heap.size w w' := by
  have hl' : ¬ (512 : Int) < (P.length : Int) := by omega
  go_enter Yapv.func4, Yapv.ntmps4
  go_wp2
  go_loopw [6] (fun i wr => ∃ j : Nat, j ≤ P.length ∧ i = .int .i64 j ∧ Var w wr (bld O P j)) (fun i _ => P.length - (intOf i).toNat)
  case atStart => exact ⟨0, Nat.zero_le _, rfl, ⟨_, by simp [go_sem], by simp [go_sem], World.ownsRow_nil _ _ _ _, (Below.refl _ _).alloc (Nat.le_refl _) _, by simp⟩⟩
  case round =>
    obtain ⟨j, hj, rfl, v, hv, hf, hs, hb, hz⟩ := hrel
    have hbl := bld_len O P j
    obtain ⟨av, cv, rfl⟩ := hs.slice
    by_cases hlt : j < P.length
    · obtain ⟨b, o, rfl, hbw, c0, c1, c2, w0, _, _⟩ := (hin.below hb) j hlt
      have hu : 0 ≤ opAt O j ∧ opAt O j ≤ 255 := by have := bounds_u8 w0; omega
      have hva : ∀ o, (wr.alloc o).cell? ⟨w.heap.size, 0, none⟩ = some (Value.slice av (bld O P j).length cv) := fun o => (World.cell?_alloc_lt _ _ _ (by exact hz)).trans hv
      have hfa : ∀ o, (wr.alloc o).frozen? ⟨w.heap.size, 0, none⟩ = false := fun o => (World.frozen?_alloc_old _ _ _ (by simp; omega)).trans hf
      by_cases hop : opAt O j % 2 = 0
      · go_wp2_with fail
        refine (add_any (w.heap.size + 1) _ (bld O P j) _ _ _ (World.ownsRow.alloc hs _) (by simp; omega) (by omega)).mono ?_
        rintro e w2 ⟨v', rfl, hs2, hb2⟩
        simp only [World.size_alloc] at hb2
        rw [← bld_add O P j hop] at hs2
        obtain ⟨av', cv', rfl⟩ := hs2.slice
        obtain ⟨e1, e2, hV⟩ := var_step hb hz hv hf hs2 hb2
        clear hs2 hb2 hva hfa hs hb hv hf hz c0 c1 c2
        go_wp2
        go_roundw
        case rel => exact ⟨j + 1, hlt, by go_num, hV⟩
        case measure => simp [intOf]; omega
      · go_wp2_with fail
        refine (rem_any (w.heap.size + 1) _ (bld O P j) _ _ _ (World.ownsRow.alloc hs _) (by simp; omega) (by omega)).mono ?_
        rintro e w2 ⟨v', rfl, hs2, hb2⟩
        simp only [World.size_alloc] at hb2
        rw [← bld_rem O P j hop] at hs2
        obtain ⟨av', cv', rfl⟩ := hs2.slice
        obtain ⟨e1, e2, hV⟩ := var_step hb hz hv hf hs2 hb2
        clear hs2 hb2 hva hfa hs hb hv hf hz c0 c1 c2
        go_wp2
        go_roundw
        case rel => exact ⟨j + 1, hlt, by go_num, hV⟩
        case measure => simp [intOf]; omega
    · obtain rfl : j = P.length := by omega
      have hC := bld_can O P P.length
      have hBd := bld_bd O P hP P.length (Nat.le_refl _)
      generalize bld O P P.length = L at *
      rename World => w2
      clear hj hlt hin hf
      go_wp2_with (at_make; refine wpList_make_sps _ rfl _ _ rfl w2.heap.size .i64 .i64 _ _ L.length rfl rfl rfl rfl (by omega) (Nat.le_refl _) ?_)
      intro v3 w3 hm3 hb3
      obtain ⟨ab, cb, rfl⟩ := hm3.1
      obtain ⟨w4, hrun, ho4, hb4⟩ := copy_sp (ty := 3) hm3 (hs.below hb3) rfl
      have hz2 : w.heap.size < w2.heap.size := by omega
      have hv3 := (hb3.cell (p := ⟨w.heap.size, 0, none⟩) hz2).trans hv
      have hv4 := (hb4.cell (p := ⟨w.heap.size, 0, none⟩) hz2).trans hv3
      have hs4 := hs.below (hb3.trans hb4)
      have hB4 : Below w.heap.size w w4 := hb.trans ((hb3.trans hb4).mono hb.size)
      have hz4 : w.heap.size < w4.heap.size := by have := hb3.size; have := hb4.size; omega
      clear hm3 hb hs hv
      go_wp2_with fail
      refine (rank_any (w.heap.size + 1) _ L x _ hs4 (by omega) hBd hx).mono ?_
      rintro e w5 ⟨rfl, hb5⟩
      have hv5 := (hb5.cell (p := ⟨w.heap.size, 0, none⟩) hz4).trans hv4
      have hs5 := hs4.below hb5
      have ho5 := ho4.below hb5
      have hB5 : Below w.heap.size w w5 := hB4.trans (hb5.mono hB4.size)
      have hz5 : w.heap.size < w5.heap.size := by have := hb5.size; omega
      have HE : Hid (rkL x L 0 = mdL x L 0) := rk_md x L hC 0 (by decide) (by decide)
      rw [HE.out]
      clear hs4 ho4 hB4 hv4 hv3 hb5 hb4 hb3 hrun HE
      go_wp2
      go_loopw [10] (fun i wx => ∃ j : Nat, j ≤ L.length ∧ i = .int .i64 j ∧ Below w5.heap.size w5 wx) (fun i _ => L.length - (intOf i).toNat)
      case atStart => exact ⟨0, Nat.zero_le _, rfl, Below.refl _ _⟩
      case round =>
        obtain ⟨j, hj, rfl, hbx⟩ := hrel
        have hbox := (hbx.cell (p := ⟨w.heap.size, 0, none⟩) hz5).trans hv5
        clear hv5
        by_cases hlt : j < L.length
        · obtain ⟨g1, rfl, _, g1l, d0, d1⟩ := (hs5.below hbx).cells j hlt
          obtain ⟨g2, rfl, _, g2l, e0, e1⟩ := (ho5.below hbx).cells j hlt
          have hlt' : (j : Int) < (L.length : Int) := by omega
          go_wp2
          go_quiet (fail)
          go_wp2
          go_roundw
          case rel => exact ⟨j + 1, hlt, by go_num, below_drewN hbx _⟩
          case measure => simp [intOf]; omega
        · have ho6 := ho5.below hbx
          have hB6 := hB5.trans (hbx.mono hB5.size)
          clear hs5 ho5 hbx hB5 hbox
          go_wp2_with fail
          refine (rankmodel_any w2.heap.size _ L x _ ho6 (by omega) hBd hx).mono ?_
          rintro e w7 ⟨rfl, hb7⟩
          generalize mdL x L 0 = m at *
          go_wp2
          go_ret
          exact ⟨rfl, hB6.trans (hb7.mono hB6.size)⟩
end Go.Proofs.Ymwhap
