/-
  LawS930006QAAWhole, walked.
-/
import Derived.Test.YmwhapSteps
import Derived.Test.YmwhapRem
import Derived.Test.YmwhapOpen
import Derived.OpenShut
namespace Go.Proofs.Ymwhap
open Go.RowKit

/-- The variable s and what it owns. -/
def Var (w wr : World) (l : List (Int × Int)) : Prop := ∃ v, wr.cell? ⟨w.heap.size, 0, none⟩ = some v ∧ wr.frozen? ⟨w.heap.size, 0, none⟩ = false ∧ Sps wr (w.heap.size + 1) v l ∧ Below w.heap.size w wr ∧ w.heap.size + 1 ≤ wr.heap.size

/-- Behind a call of Add or Remove, and the store of what it handed back. -/
theorem var_step {w wr w2 : World} {o : Obj} {v v' : Value} {l' : List (Int × Int)} (hb : Below w.heap.size w wr) (hz : w.heap.size + 1 ≤ wr.heap.size) (hv : wr.cell? ⟨w.heap.size, 0, none⟩ = some v) (hf : wr.frozen? ⟨w.heap.size, 0, none⟩ = false)
    (hs2 : Sps w2 (w.heap.size + 1) v' l') (hb2 : Below (wr.heap.size + 1) (wr.alloc o) w2) :
    w2.cell? ⟨w.heap.size, 0, none⟩ = some v ∧ w2.frozen? ⟨w.heap.size, 0, none⟩ = false ∧ Var w (w2.setCell ⟨w.heap.size, 0, none⟩ v') l' := by
  have hw := box_below hb2
  have e1 : w2.cell? ⟨w.heap.size, 0, none⟩ = some v := (hw.cell (p := ⟨w.heap.size, 0, none⟩) hz).trans hv
  have e2 : w2.frozen? ⟨w.heap.size, 0, none⟩ = false := (hw.frozen (p := ⟨w.heap.size, 0, none⟩) hz).trans hf
  refine ⟨e1, e2, v', World.cell?_setCell_same _ _ _ e1, (World.frozen?_setCell _ _ _ _).trans e2, ownsRow_setCell_below hs2 (Nat.lt_succ_self _) _, ?_, ?_⟩
  · exact (hb.trans (hw.mono (by omega))).setCell (Nat.le_refl _) _
  · have := hw.size
    simp
    omega

set_option maxHeartbeats 1000000 in
set_option maxRecDepth 100000 in
theorem lawA_walk (a : Option Addr) (c : Nat) (O : List Int) (P : List (Int × Int)) (x : Int) (w : World) (hl : P.length ≤ 1024) (hin : Stp w a O P) :
    Calls Yapv.prog 3 #[.slice a P.length c, .int .i64 x] w fun e w' => e = .returned (.bool true) ∧ Below w.heap.size w w' := by
  have hl' : ¬ (1024 : Int) < (P.length : Int) := by omega
  go_enter Yapv.func3, Yapv.ntmps3
  go_wp2
  go_loopw [6] (fun i wr => ∃ j : Nat, j ≤ P.length ∧ i = .int .i64 j ∧ Var w wr (bld O P j)) (fun i _ => P.length - (intOf i).toNat)
  case atStart => exact ⟨0, Nat.zero_le _, rfl, ⟨_, by simp [go_sem], by simp [go_sem], World.ownsRow_nil _ _ _ _, (Below.refl _ _).alloc (Nat.le_refl _) _, by simp⟩⟩
  case round =>
    obtain ⟨j, hj, rfl, v, hv, hf, hs, hb, hz⟩ := hrel
    have hbl := bld_len O P j
    obtain ⟨av, cv, rfl⟩ := hs.slice
    by_cases hlt : j < P.length
    · obtain ⟨b, o, rfl, hbw, c0, c1, c2, w0, _, _⟩ := (hin.below hb) j hlt
      have hu : 0 ≤ opAt O j ∧ opAt O j ≤ 255 := by have := bounds_u8 w0; omega
      have hva : ∀ o, (wr.alloc o).cell? ⟨w.heap.size, 0, none⟩ = some (Value.slice av (bld O P j).length cv) := fun o => (World.cell?_alloc_lt _ _ _ (by exact hz)).trans hv
      have hfa : ∀ o, (wr.alloc o).frozen? ⟨w.heap.size, 0, none⟩ = false := fun o => (World.frozen?_alloc_old _ _ _ (by simp; omega)).trans hf
      by_cases hop : opAt O j % 2 = 0
      · go_wp2_with fail
        refine (add_any (w.heap.size + 1) _ (bld O P j) _ _ _ (World.ownsRow.alloc hs _) (by simp; omega) (by omega)).mono ?_
        rintro e w2 ⟨v', rfl, hs2, hb2⟩
        simp only [World.size_alloc] at hb2
        rw [← bld_add O P j hop] at hs2
        obtain ⟨av', cv', rfl⟩ := hs2.slice
        obtain ⟨e1, e2, hV⟩ := var_step hb hz hv hf hs2 hb2
        clear hs2 hb2 hva hfa hs hb hv hf hz c0 c1 c2
        go_wp2
        go_roundw
        case rel => exact ⟨j + 1, hlt, by go_num, hV⟩
        case measure => simp [intOf]; omega
      · go_wp2_with fail
        refine (rem_any (w.heap.size + 1) _ (bld O P j) _ _ _ (World.ownsRow.alloc hs _) (by simp; omega) (by omega)).mono ?_
        rintro e w2 ⟨v', rfl, hs2, hb2⟩
        simp only [World.size_alloc] at hb2
        rw [← bld_rem O P j hop] at hs2
        obtain ⟨av', cv', rfl⟩ := hs2.slice
        obtain ⟨e1, e2, hV⟩ := var_step hb hz hv hf hs2 hb2
        clear hs2 hb2 hva hfa hs hb hv hf hz c0 c1 c2
        go_wp2
        go_roundw
        case rel => exact ⟨j + 1, hlt, by go_num, hV⟩
        case measure => simp [intOf]; omega
    · obtain rfl : j = P.length := by omega
      have hC := bld_can O P P.length
      have HM : Hid (want O P x P.length = memB (bld O P P.length) x) := want_eq O P x P.length
      generalize bld O P P.length = L at *
      rename World => w1
      clear hj hlt
      go_wp2
      go_loopw [8, 9] (fun t i wx => ∃ m : Nat, m ≤ P.length ∧ i = .int .i64 m ∧ t = .bool (want O P x m) ∧ Below w1.heap.size w1 wx) (fun _ i _ => P.length - (intOf i).toNat)
      case atStart => exact ⟨0, Nat.zero_le _, rfl, rfl, Below.refl _ _⟩
      case round =>
        obtain ⟨m, hm, rfl, rfl, hbx⟩ := hrel
        have hbw1 : Below w.heap.size w wr := hb.trans (hbx.mono (by omega))
        have hsz := hbx.size
        by_cases hlt : m < P.length
        · obtain ⟨b, o, rfl, hbw, c0, c1, c2, w0, _, _⟩ := (hin.below hbw1) m hlt
          have hu : 0 ≤ opAt O m ∧ opAt O m ≤ 255 := by have := bounds_u8 w0; omega
          by_cases h1 : lo P m ≤ x
          · by_cases h2 : x < hi P m
            · go_wp2
              go_roundw
              case rel => exact ⟨m + 1, hlt, by go_num, by rw [want_in O P x m h1 h2]; rfl, hbx.alloc hsz _⟩
              case measure => simp [intOf]; omega
            · go_wp2
              go_roundw
              case rel => exact ⟨m + 1, hlt, by go_num, by rw [want_out O P x m (by omega)], hbx.alloc hsz _⟩
              case measure => simp [intOf]; omega
          · go_wp2
            go_roundw
            case rel => exact ⟨m + 1, hlt, by go_num, by rw [want_out O P x m (by omega)], hbx.alloc hsz _⟩
            case measure => simp [intOf]; omega
        · obtain rfl : m = P.length := by omega
          rw [HM.out]
          have hv2 := (hbx.cell (p := ⟨w.heap.size, 0, none⟩) hz).trans hv
          have hs2 := hs.below hbx
          rename World => w2
          clear hm hlt hv hs hf hin hb hbx HM
          go_wp2_with (at_make; refine wpList_make_sps _ rfl _ _ rfl w2.heap.size .i64 .i64 _ _ L.length rfl rfl rfl rfl (by omega) (Nat.le_refl _) ?_)
          intro v3 w3 hm3 hb3
          obtain ⟨ab, cb, rfl⟩ := hm3.1
          obtain ⟨w4, hrun, ho4, hb4⟩ := copy_sp (ty := 3) hm3 (hs2.below hb3) rfl
          have hz2 : w.heap.size < w2.heap.size := by omega
          have hv3 := (hb3.cell (p := ⟨w.heap.size, 0, none⟩) hz2).trans hv2
          have hv4 := (hb4.cell (p := ⟨w.heap.size, 0, none⟩) hz2).trans hv3
          have hs4 := hs2.below (hb3.trans hb4)
          have hB4 : Below w.heap.size w w4 := hbw1.trans ((hb3.trans hb4).mono hbw1.size)
          have hz4 : w.heap.size < w4.heap.size := by have := hb3.size; have := hb4.size; omega
          clear hm3 hbw1 hs2 hv2 hsz
          go_wp2_with fail
          refine (contains_any (w.heap.size + 1) _ L x _ hs4 (by omega) hC).mono ?_
          rintro e w5 ⟨rfl, hb5⟩
          have hv5 := (hb5.cell (p := ⟨w.heap.size, 0, none⟩) hz4).trans hv4
          have hs5 := hs4.below hb5
          have ho5 := ho4.below hb5
          have hB5 : Below w.heap.size w w5 := hB4.trans (hb5.mono hB4.size)
          have hz5 : w.heap.size < w5.heap.size := by have := hb5.size; omega
          clear hs4 ho4 hB4 hv4 hv3 hb5 hb4 hb3 hrun
          generalize memB L x = m at *
          go_wp2
          go_loopw [13] (fun i wx => ∃ j : Nat, j ≤ L.length ∧ i = .int .i64 j ∧ Below w5.heap.size w5 wx) (fun i _ => L.length - (intOf i).toNat)
          case atStart => exact ⟨0, Nat.zero_le _, rfl, Below.refl _ _⟩
          case round =>
            obtain ⟨j, hj, rfl, hbx⟩ := hrel
            have hbox := (hbx.cell (p := ⟨w.heap.size, 0, none⟩) hz5).trans hv5
            clear hv5
            by_cases hlt : j < L.length
            · obtain ⟨g1, rfl, _, g1l, d0, d1⟩ := (hs5.below hbx).cells j hlt
              obtain ⟨g2, rfl, _, g2l, e0, e1⟩ := (ho5.below hbx).cells j hlt
              have hlt' : (j : Int) < (L.length : Int) := by omega
              go_wp2
              go_quiet (fail)
              go_wp2
              go_roundw
              case rel => exact ⟨j + 1, hlt, by go_num, below_drewN hbx _⟩
              case measure => simp [intOf]; omega
            · go_wp2
              go_ret
              exact ⟨rfl, hB5.trans (hbx.mono hB5.size)⟩
end Go.Proofs.Ymwhap
