/-
  LawS930006QAFWhole, walked.
-/
import Derived.Test.YmwhapFPlain
import Derived.Test.YmwhapLaws
import Derived.Deep.DeepCutAuto
import Derived.Deep.QuietTactic
import Derived.BigQuiet
import Derived.WalkLawsBesides
namespace Go.Proofs.Ymwhap
open Go.RowKit

/-- The argument 'parts' in memory. -/
def PartsIn (w : World) (a : Option Addr) (P : List (Int × Int)) : Prop := ∀ k, k < P.length → ∃ b o, a = some ⟨b, o, none⟩ ∧ b < w.heap.size ∧ w.cell? ⟨b, o + k * 2, none⟩ = some (.int .u8 (lo P k)) ∧ w.cell? ⟨b, o + k * 2 + 1, none⟩ = some (.int .u8 (hi P k))
theorem PartsIn.below {w w' : World} {a : Option Addr} {P : List (Int × Int)} (h : PartsIn w a P) (hb : Below w.heap.size w w') : PartsIn w' a P := by
  intro k hk
  obtain ⟨b, o, e, h1, h2, h3⟩ := h k hk
  exact ⟨b, o, e, Nat.lt_of_lt_of_le h1 hb.size, (hb.cell (p := ⟨b, o + k * 2, none⟩) h1).trans h2, (hb.cell (p := ⟨b, o + k * 2 + 1, none⟩) h1).trans h3⟩

theorem F_lo0 (st : Int) (P : List (Int × Int)) : st + acc P 0 + gp P 0 = st + acc P 0 + gp P 1 := by simp [acc, gp]
theorem F_hi0 (st : Int) (P : List (Int × Int)) : st + acc P 0 + gp P 0 + hi P 0 + 1 = st + acc P 1 + gp P 1 := by simp [acc, gp]; omega
theorem F_lo1 (st : Int) (P : List (Int × Int)) {j : Nat} (h : ¬ j = 0) : st + acc P j + gp P j + (lo P j + 1) = st + acc P j + gp P (j + 1) := by simp [gp, h]; omega
theorem F_hi1 (st : Int) (P : List (Int × Int)) {j : Nat} (h : ¬ j = 0) : st + acc P j + gp P j + (lo P j + 1) + hi P j + 1 = st + acc P (j + 1) + gp P (j + 1) := by simp [acc, gp, h]; omega

theorem F_acc (P : List (Int × Int)) (m : Nat) : Value.int .u64 (acc P m + (hi P m + 1)) = .int .u64 (acc P (m + 1)) := rfl

theorem F_gp (P : List (Int × Int)) {m : Nat} (h : ¬ m = 0) : gp P (m + 1) = gp P m + (lo P m + 1) := by simp only [gp, if_neg h]

set_option maxHeartbeats 1000000 in
set_option maxRecDepth 100000 in
theorem lawF_walk (st0 : Int) (a : Option Addr) (c : Nat) (P : List (Int × Int)) (k : Int) (w : World) (hst : I64 st0) (hk0 : 0 ≤ k) (hk1 : k ≤ 18446744073709551615) (hl : P.length ≤ 1024) (hin : PartsIn w a P) (hP : Bytes P) :
    Calls Yapv.prog 7 #[.int .i64 st0, .slice a P.length c, .int .u64 k] w fun e w' => e = .returned (.bool true) ∧ Below w.heap.size w w' := by
  obtain ⟨hst1, hst2⟩ := hst
  have hl' : ¬ (1024 : Int) < (P.length : Int) := by omega
  go_enter Yapv.func7, Yapv.ntmps7
  go_upto_if 27 with fail
  go_cut [0] (fun s wc => (∃ st, s = .int .i64 st ∧ -9223372036854775808 ≤ st ∧ st ≤ 9223372036853727231) ∧ wc = w)
  case first =>
    by_cases h : 9223372036853727231 < st0
    · go_wp2
      go_meet
      exact ⟨⟨_, rfl, by omega, by omega⟩, rfl⟩
    · go_wp2
      go_meet
      exact ⟨⟨_, rfl, by omega, by omega⟩, rfl⟩
  case rest =>
  obtain ⟨⟨st, rfl, hs1, hs2⟩, rfl⟩ := hcut
  clear hst1 hst2
  go_wp2_with (at_make; refine wpList_make_sp _ rfl _ _ rfl wc.heap.size .i64 .i64 _ P.length rfl rfl rfl (by omega) (Nat.le_refl _) ?_)
  intro v1 w1 ho1 hb1
  go_wp2
  go_loopw [7, 8, 9] (fun v x i wr => ∃ j : Nat, j ≤ P.length ∧ i = .int .i64 j ∧ x = .int .i64 (st + acc P j + gp P j) ∧ Sps wr wc.heap.size v (spn st P j) ∧ Below wc.heap.size wc wr) (fun _ _ i _ => P.length - (intOf i).toNat)
  case atStart => exact ⟨0, Nat.zero_le _, rfl, by simp [acc, gp], ho1, hb1⟩
  case round =>
    clear ho1 hb1
    obtain ⟨j, hj, rfl, rfl, ho, hb⟩ := hrel
    have a1 := acc_bd hP j hj
    have a2 := gp_bd hP j hj
    by_cases hlt : j < P.length
    · obtain ⟨b, o, rfl, hbl, c0, c1⟩ := (hin.below hb) j hlt
      obtain ⟨l0, l1, l2, l3⟩ := hP j hlt
      by_cases hj0 : j = 0
      · subst hj0
        go_wp2_with (at_builtin; refine wpList_append_new _ rfl _ _ rfl wc.heap.size _ _ rfl ho (st + acc P 0 + gp P 1) (st + acc P 1 + gp P 1) rfl (F_lo0 _ _) (F_hi0 _ _) (by rw [spn_length]; omega) hb.size ?_)
        intro v' w' ho' hb'
        clear ho
        go_wp2
        go_roundw
        case rel => exact ⟨1, hlt, by go_num, by rw [F_hi0], ho', hb.trans hb'⟩
        case measure => simp [intOf]; omega
      · go_wp2_with (at_builtin; refine wpList_append_new _ rfl _ _ rfl wc.heap.size _ _ rfl ho (st + acc P j + gp P (j + 1)) (st + acc P (j + 1) + gp P (j + 1)) rfl (F_lo1 _ _ hj0) (F_hi1 _ _ hj0) (by rw [spn_length]; omega) hb.size ?_)
        intro v' w' ho' hb'
        clear ho
        go_wp2
        go_roundw
        case rel => exact ⟨j + 1, hlt, by go_num, by rw [F_hi1 _ _ hj0], ho', hb.trans hb'⟩
        case measure => simp [intOf]; omega
    · obtain rfl : j = P.length := by omega
      clear hj hlt
      have hI := spn_I64 hP hl hs1 hs2
      have hL : Hid (∀ r, selL (spn st P P.length) k = r → (acc P P.length ≤ k → r = (0, false)) ∧ (∀ j, j < P.length → acc P j ≤ k → k < acc P (j + 1) → r = (st + gp P (j + 1) + k, true))) :=
        fun r hr => ⟨fun h => hr.symm.trans (sel_none hP k h), fun j hj h1 h2 => hr.symm.trans (sel_some hP k j hj h1 h2)⟩
      have hn : (spn st P P.length).length ≤ 1048576 := by rw [spn_length]; omega
      generalize spn st P P.length = L at *
      obtain ⟨av, cv, rfl⟩ := ho.slice
      go_wp2_with (at_make; refine wpList_make_sps _ rfl _ _ rfl wr.heap.size .i64 .i64 _ _ L.length rfl rfl rfl rfl hn (Nat.le_refl _) ?_)
      intro v2 w2 hm2 hb2
      obtain ⟨ab, cb, rfl⟩ := hm2.1
      obtain ⟨w3, hrun, ho3, hb3⟩ := copy_sp (ty := 3) hm2 (ho.below hb2) rfl
      have hv3 := ho.below (hb2.trans hb3)
      have hin3 := hin.below (hb.trans ((hb2.trans hb3).mono hb.size))
      have hB3 : Below wc.heap.size wc w3 := hb.trans ((hb2.trans hb3).mono hb.size)
      clear hin hb ho hm2 a1 a2
      go_wp2_with fail
      refine (select_any wc.heap.size _ L k _ (World.ownsRow.alloc hv3 _) hn hk0 hk1 hI).mono ?_
      rintro e w4 ⟨rfl, hb4⟩
      clear hrun hI
      simp only [World.size_alloc] at hb4
      have hL' := hL.out _ rfl
      have HL : Hid _ := hL'
      clear hL' hL
      generalize selL L k = r at *
      have hbox := box_cell hb4
      have hs4 := hv3.below (box_below hb4)
      have hs4' := ho3.below (box_below hb4)
      have hin4 := hin3.below (box_below hb4)
      have hB4 := hB3.trans ((box_below hb4).mono hB3.size)
      have hz4 := box_size hb4
      clear hv3 ho3 hin3 hB3 hb4 hb2 hb3
      go_wp2
      go_loopw [15] (fun i wx => ∃ j : Nat, j ≤ L.length ∧ i = .int .i64 j ∧ Below w4.heap.size w4 wx) (fun i _ => L.length - (intOf i).toNat)
      case atStart => exact ⟨0, Nat.zero_le _, rfl, Below.refl _ _⟩
      case round =>
        obtain ⟨j, hj, rfl, hbx⟩ := hrel
        have hbox' : wr.cell? ⟨w3.heap.size, 0, none⟩ = some (.slice av L.length cv) := (hbx.cell (p := ⟨w3.heap.size, 0, none⟩) (by exact hz4)).trans hbox
        have hz5 := hbx.size
        clear hbox
        by_cases hlt : j < L.length
        · obtain ⟨g1, rfl, _, g1l, d0, d1⟩ := (hs4.below hbx).cells j hlt
          obtain ⟨g2, rfl, _, g2l, e0, e1⟩ := (hs4'.below hbx).cells j hlt
          have hlt' : (j : Int) < (L.length : Int) := by omega
          go_wp2
          go_quiet (fail)
          go_wp2
          go_roundw
          case rel => exact ⟨j + 1, hlt, by go_num, below_drewN hbx _⟩
          case measure => simp [intOf]; omega
        · have hin5 := hin4.below hbx
          have hB5 := hB4.trans (hbx.mono hB4.size)
          clear hin4 hB4 hs4 hs4' hbx hbox' hz4 hz5
          go_wp2
          go_loop [16, 17] (fun t i => ∃ m : Nat, m ≤ P.length ∧ i = .int .i64 m ∧ t = .int .u64 (acc P m)) (fun _ i => P.length - (intOf i).toNat)
          case atStart => exact ⟨0, Nat.zero_le _, rfl, rfl⟩
          case round =>
            obtain ⟨m, hm, rfl, rfl⟩ := hrel
            have a1 := acc_bd hP m hm
            by_cases hml : m < P.length
            · obtain ⟨b, o, rfl, hbl, c0, c1⟩ := hin5 m hml
              obtain ⟨l0, l1, l2, l3⟩ := hP m hml
              go_wp2
              go_round
              case rel => exact ⟨m + 1, hml, by go_num, F_acc _ _⟩
              case measure => simp [intOf]; omega
            · obtain rfl : m = P.length := by omega
              clear hml hm
              by_cases hk : acc P P.length ≤ k
              · obtain rfl := HL.out.1 hk
                go_wp2
                go_ret
                exact ⟨rfl, hB5⟩
              · go_wp2
                go_loop [18, 19, 20] (fun t g i => ∃ m : Nat, m ≤ P.length ∧ i = .int .i64 m ∧ t = .int .u64 (acc P m) ∧ g = .int .i64 (gp P m) ∧ acc P m ≤ k) (fun _ _ i => P.length - (intOf i).toNat)
                case atStart => exact ⟨0, Nat.zero_le _, rfl, rfl, rfl, hk0⟩
                case round =>
                  clear a1
                  obtain ⟨m, hm, rfl, rfl, rfl, hmk⟩ := hrel
                  have b1 := acc_bd hP m hm
                  have b2 := gp_bd hP m hm
                  by_cases hml : m < P.length
                  · obtain ⟨b, o, rfl, hbl, c0, c1⟩ := hin5 m hml
                    obtain ⟨l0, l1, l2, l3⟩ := hP m hml
                    by_cases hm0 : m = 0
                    · subst hm0
                      by_cases hkm : k < acc P 0 + (hi P 0 + 1)
                      · obtain rfl : r = (st + gp P 0 + k, true) := HL.out.2 0 hml hmk hkm
                        go_wp2
                        go_ret
                        exact ⟨rfl, hB5⟩
                      · go_wp2
                        go_round
                        case rel => exact ⟨1, hml, by go_num, F_acc _ _, rfl, by simp only [acc] at hkm ⊢; omega⟩
                        case measure => simp [intOf]; omega
                    · by_cases hkm : k < acc P m + (hi P m + 1)
                      · obtain rfl : r = (st + (gp P m + (lo P m + 1)) + k, true) := (HL.out.2 m hml hmk hkm).trans (by rw [F_gp P hm0])
                        go_wp2
                        go_ret
                        exact ⟨rfl, hB5⟩
                      · go_wp2
                        go_round
                        case rel => exact ⟨m + 1, hml, by go_num, F_acc _ _, by rw [F_gp P hm0], by simp only [acc]; omega⟩
                        case measure => simp [intOf]; omega
                  · exfalso
                    obtain rfl : m = P.length := by omega
                    omega
end Go.Proofs.Ymwhap
