/-
  LawS930006QADWhole, walked.
-/
import Derived.Test.YmwhapVar
import Derived.Test.YmwhapCntModel
namespace Go.Proofs.Ymwhap
open Go.RowKit

/-- Behind a call of Add or Remove, and the store of what it handed back. -/
theorem var_step0 {w wr w2 : World} {v v' : Value} {l' : List (Int × Int)} (hb : Below w.heap.size w wr) (hz : w.heap.size + 1 ≤ wr.heap.size) (hv : wr.cell? ⟨w.heap.size, 0, none⟩ = some v) (hf : wr.frozen? ⟨w.heap.size, 0, none⟩ = false)
    (hs2 : Sps w2 (w.heap.size + 1) v' l') (hw : Below wr.heap.size wr w2) :
    w2.cell? ⟨w.heap.size, 0, none⟩ = some v ∧ w2.frozen? ⟨w.heap.size, 0, none⟩ = false ∧ Var w (w2.setCell ⟨w.heap.size, 0, none⟩ v') l' := by
  have e1 : w2.cell? ⟨w.heap.size, 0, none⟩ = some v := (hw.cell (p := ⟨w.heap.size, 0, none⟩) hz).trans hv
  have e2 : w2.frozen? ⟨w.heap.size, 0, none⟩ = false := (hw.frozen (p := ⟨w.heap.size, 0, none⟩) hz).trans hf
  refine ⟨e1, e2, v', World.cell?_setCell_same _ _ _ e1, (World.frozen?_setCell _ _ _ _).trans e2, ownsRow_setCell_below hs2 (Nat.lt_succ_self _) _, ?_, ?_⟩
  · exact (hb.trans (hw.mono (by omega))).setCell (Nat.le_refl _) _
  · have := hw.size
    simp
    omega
theorem cnt_szs {l : List (Int × Int)} (h : Can l) : cntL l 0 = IntKind.u64.wrap (szs l) := by
  have := cntL_eq l 0 h
  rw [Int.zero_add] at this
  exact this

set_option maxHeartbeats 1000000 in
set_option maxRecDepth 100000 in
theorem lawD_walk (a : Option Addr) (c : Nat) (O : List Int) (P : List (Int × Int)) (w : World) (hl : P.length ≤ 300) (hin : Stp w a O P) (hN : ∀ j, j < P.length → I64 (lo (P.map nz) j) ∧ I64 (hi (P.map nz) j)) :
    Calls Yapv.prog 6 #[.slice a P.length c] w fun e w' => e = .returned (.bool true) ∧ Below w.heap.size w w' := by
  have hl' : ¬ (300 : Int) < (P.length : Int) := by omega
  have HZ : Hid (∀ j, j < P.length → (if hi P j < lo P j then hi P j else lo P j) = lo (P.map nz) j ∧ (if hi P j < lo P j then lo P j else hi P j) = hi (P.map nz) j) := fun j hj => ⟨lo_nz hj, hi_nz hj⟩
  have HM : Hid (∀ W, Stp W a O P → Calls Yapv.prog 22 #[.slice a P.length c] W fun e w' => e = .returned (.int .u64 (IntKind.u64.wrap (szs (bld O (P.map nz) P.length)))) ∧ Below W.heap.size W w') := fun W hW => cntmodel_any a c O P W hl hW hN
  have HB : Hid (Bd (bld O (P.map nz) P.length)) := bld_bd O (P.map nz) (by simpa using hN) P.length (by simp)
  clear hN
  generalize P.map nz = N at *
  go_enter Yapv.func6, Yapv.ntmps6
  go_wp2
  go_loopw [4] (fun i wr => ∃ j : Nat, j ≤ P.length ∧ i = .int .i64 j ∧ Var w wr (bld O N j)) (fun i _ => P.length - (intOf i).toNat)
  case atStart => exact ⟨0, Nat.zero_le _, rfl, ⟨_, by simp [go_sem], by simp [go_sem], World.ownsRow_nil _ _ _ _, (Below.refl _ _).alloc (Nat.le_refl _) _, by simp⟩⟩
  case round =>
    obtain ⟨j, hj, rfl, v, hv, hf, hs, hb, hz⟩ := hrel
    have hbl := bld_len O N j
    obtain ⟨av, cv, rfl⟩ := hs.slice
    by_cases hlt : j < P.length
    · obtain ⟨z1, z2⟩ := HZ.out j hlt
      clear HM HB HZ
      obtain ⟨b, o, rfl, hbw, c0, c1, c2, w0, _, _⟩ := (hin.below hb) j hlt
      have hu : 0 ≤ opAt O j ∧ opAt O j ≤ 255 := by have := bounds_u8 w0; omega
      go_wp2_with fail
      refine (norm_any _ _ _ (lo N j) (hi N j) _ z1 z2).mono ?_
      rintro e w2 ⟨rfl, hb2⟩
      have d0 := (hb2.cell (p := ⟨b, o + j * 3, none⟩) hbw).trans c0
      have hv2 := (hb2.cell (p := ⟨w.heap.size, 0, none⟩) hz).trans hv
      have hf2 := (hb2.frozen (p := ⟨w.heap.size, 0, none⟩) hz).trans hf
      have hs2 := hs.below hb2
      have hB2 := hb.trans (hb2.mono hb.size)
      have hz2 := Nat.le_trans hz hb2.size
      clear c0 c1 c2 z1 z2 hv hf hs hb hz hb2
      by_cases hop : opAt O j % 2 = 0
      · go_wp2_with fail
        refine (add_any (w.heap.size + 1) _ (bld O N j) _ _ _ hs2 hz2 (by omega)).mono ?_
        rintro e w3 ⟨v', rfl, hs3, hb3⟩
        rw [← bld_add O N j hop] at hs3
        obtain ⟨av', cv', rfl⟩ := hs3.slice
        obtain ⟨e1, e2, hV⟩ := var_step0 hB2 hz2 hv2 hf2 hs3 hb3
        clear hs3 hb3 hs2 hB2 hv2 hf2 hz2 d0
        go_wp2
        go_roundw
        case rel => exact ⟨j + 1, hlt, by go_num, hV⟩
        case measure => simp [intOf]; omega
      · go_wp2_with fail
        refine (rem_any (w.heap.size + 1) _ (bld O N j) _ _ _ hs2 hz2 (by omega)).mono ?_
        rintro e w3 ⟨v', rfl, hs3, hb3⟩
        rw [← bld_rem O N j hop] at hs3
        obtain ⟨av', cv', rfl⟩ := hs3.slice
        obtain ⟨e1, e2, hV⟩ := var_step0 hB2 hz2 hv2 hf2 hs3 hb3
        clear hs3 hb3 hs2 hB2 hv2 hf2 hz2 d0
        go_wp2
        go_roundw
        case rel => exact ⟨j + 1, hlt, by go_num, hV⟩
        case measure => simp [intOf]; omega
    · obtain rfl : j = P.length := by omega
      have HC : Hid (cntL (bld O N P.length) 0 = IntKind.u64.wrap (szs (bld O N P.length))) := cnt_szs (bld_can O N P.length)
      generalize bld O N P.length = L at *
      rename World => w2
      clear hj hlt HZ hf
      go_wp2_with fail
      refine (clone_any (w.heap.size + 1) w2.heap.size _ L _ hs (by omega) rfl).mono ?_
      rintro e w3 ⟨v3, rfl, hc3, hb3⟩
      obtain ⟨a3, c3, rfl⟩ := hc3.slice
      have hv3 := (hb3.cell (p := ⟨w.heap.size, 0, none⟩) hz).trans hv
      have hs3 := hs.below hb3
      have hB3 := hb.trans (hb3.mono hb.size)
      have hz3 := Nat.le_trans hz hb3.size
      clear hv hs hb hz hb3
      go_wp2_with fail
      refine (count_any (w.heap.size + 1) _ L _ hs3 (by omega) HB.out).mono ?_
      rintro e w4 ⟨rfl, hb4⟩
      rw [HC.out]
      have hv4 := (hb4.cell (p := ⟨w.heap.size, 0, none⟩) hz3).trans hv3
      have hs4 := hs3.below hb4
      have hc4 := hc3.below hb4
      have hB4 := hB3.trans (hb4.mono hB3.size)
      have hz4 := Nat.le_trans hz3 hb4.size
      clear hv3 hs3 hc3 hB3 hz3 hb4 HC HB
      generalize IntKind.u64.wrap (szs L) = r at *
      go_wp2_with fail
      refine (HM.out _ (hin.below hB4)).mono ?_
      rintro e w5 ⟨rfl, hb5⟩
      have hv5 := (hb5.cell (p := ⟨w.heap.size, 0, none⟩) hz4).trans hv4
      have hs5 := hs4.below hb5
      have hc5 := hc4.below hb5
      have hB5 := hB4.trans (hb5.mono hB4.size)
      clear hv4 hs4 hc4 hB4 hz4 hb5 HM
      go_wp2_with fail
      refine (equal_any _ _ _ _ L _ hc5 hs5 (by omega)).mono ?_
      rintro e w6 ⟨rfl, hb6⟩
      go_wp2
      go_ret
      exact ⟨rfl, hB5.trans (hb6.mono hB5.size)⟩
end Go.Proofs.Ymwhap
