/-
  The model of Intersect, walked.
-/
import Derived.Test.YmwhapIntPlain
import Derived.Test.YmwhapLaws
import Derived.Test.YmwhapAddPlain
namespace Go.Proofs.Ymwhap
open Go.RowKit

set_option maxHeartbeats 1000000 in
theorem intmodel_any (B1 B2 : Nat) (v1 v2 : Value) (x y : List (Int × Int)) (w : World) (h1 : Sps w B1 v1 x) (h2 : Sps w B2 v2 y) (hx : x.length ≤ 512) (hy : y.length ≤ 512) :
    Calls Yapv.prog 27 #[v1, v2] w fun e w' => ∃ v', e = .returned v' ∧ Sps w' w.heap.size v' (mdI x y) ∧ Below w.heap.size w w' := by
  obtain ⟨a1, c1, rfl⟩ := h1.slice
  obtain ⟨a2, c2, rfl⟩ := h2.slice
  have hRl := mdI_length x y
  have hRl2 : x.length * y.length ≤ 512 * 512 := Nat.mul_le_mul hx hy
  have hRl3 : (mdI x y).length ≤ 262144 := by omega
  clear hRl hRl2
  generalize hR : mdI x y = R at *
  have HR : Hid ([] ++ mdI (x.drop 0) y = R) := hR
  clear hR
  go_enter Yapv.func27, Yapv.ntmps27
  go_wp2
  go_loopw [5, 6] (fun v i wr => ∃ (k : Nat) (out : List (Int × Int)), k ≤ x.length ∧ i = .int .i64 k ∧ Sps wr w.heap.size v out ∧ Hid (out ++ mdI (x.drop k) y = R) ∧ Below w.heap.size w wr) (fun _ i _ => x.length - (intOf i).toNat)
  case atStart => exact ⟨0, [], Nat.zero_le _, rfl, World.ownsRow_lit w #[] 0 (Nat.le_refl _) (Nat.zero_le _) rfl, HR, (Below.refl _ _).alloc (Nat.le_refl _) _⟩
  case round =>
    clear HR
    obtain ⟨i, out0, hi', rfl, ho0, HE0, hb0⟩ := hrel
    rename World => w0
    by_cases hlt : i < x.length
    · have HE1 : Hid _ := mdI_row hlt HE0.out
      generalize hM : mdI (x.drop (i + 1)) y = M at HE1
      have HM : Hid (mdI (x.drop (i + 1)) y = M) := hM
      clear HE0 hM
      go_wp2
      go_loopw [5, 7] (fun v j wr => ∃ (k : Nat) (out : List (Int × Int)), k ≤ y.length ∧ j = .int .i64 k ∧ Sps wr w.heap.size v out ∧ Hid (out ++ (row (lo x i) (hi x i) (y.drop k) ++ M) = R) ∧ Below w.heap.size w wr) (fun _ j _ => y.length - (intOf j).toNat)
      case atStart => exact ⟨0, out0, Nat.zero_le _, rfl, ho0, HE1, hb0⟩
      case round =>
        clear HE1 ho0
        obtain ⟨j, out, hj, rfl, ho, HE, hb⟩ := hrel
        have hol := len_le HE.out
        by_cases hjt : j < y.length
        · obtain ⟨g1, rfl, _, g1l, d0, d1⟩ := (h1.below hb).cells i hlt
          obtain ⟨g2, rfl, _, g2l, e0, e1⟩ := (h2.below hb).cells j hjt
          have HE2 : Hid _ := row_in hjt HE.out
          clear HE
          by_cases p : lo x i < lo y j
          · by_cases q : hi y j < hi x i
            · by_cases r : lo y j < hi y j
              · go_wp2_with (at_builtin; refine wpList_append_new _ rfl _ _ rfl w.heap.size _ _ rfl ho (lo y j) (hi y j) rfl rfl rfl (by omega) hb.size ?_)
                intro v' w' ho' hb'
                go_wp2
                go_roundw
                case rel => exact ⟨j + 1, _, hjt, by go_num, ho', by have := HE2.out; rw [cap_yes (if_pos p) (if_pos q) r] at this; exact this, hb.trans hb'⟩
                case measure => simp [intOf]; omega
              · go_wp2
                go_roundw
                case rel => exact ⟨j + 1, _, hjt, by go_num, ho, by have := HE2.out; rw [cap_no (if_pos p) (if_pos q) (by omega), List.append_nil] at this; exact this, hb⟩
                case measure => simp [intOf]; omega
            · by_cases r : lo y j < hi x i
              · go_wp2_with (at_builtin; refine wpList_append_new _ rfl _ _ rfl w.heap.size _ _ rfl ho (lo y j) (hi x i) rfl rfl rfl (by omega) hb.size ?_)
                intro v' w' ho' hb'
                go_wp2
                go_roundw
                case rel => exact ⟨j + 1, _, hjt, by go_num, ho', by have := HE2.out; rw [cap_yes (if_pos p) (if_neg (by omega)) r] at this; exact this, hb.trans hb'⟩
                case measure => simp [intOf]; omega
              · go_wp2
                go_roundw
                case rel => exact ⟨j + 1, _, hjt, by go_num, ho, by have := HE2.out; rw [cap_no (if_pos p) (if_neg (by omega)) (by omega), List.append_nil] at this; exact this, hb⟩
                case measure => simp [intOf]; omega
          · by_cases q : hi y j < hi x i
            · by_cases r : lo x i < hi y j
              · go_wp2_with (at_builtin; refine wpList_append_new _ rfl _ _ rfl w.heap.size _ _ rfl ho (lo x i) (hi y j) rfl rfl rfl (by omega) hb.size ?_)
                intro v' w' ho' hb'
                go_wp2
                go_roundw
                case rel => exact ⟨j + 1, _, hjt, by go_num, ho', by have := HE2.out; rw [cap_yes (if_neg (by omega)) (if_pos q) r] at this; exact this, hb.trans hb'⟩
                case measure => simp [intOf]; omega
              · go_wp2
                go_roundw
                case rel => exact ⟨j + 1, _, hjt, by go_num, ho, by have := HE2.out; rw [cap_no (if_neg (by omega)) (if_pos q) (by omega), List.append_nil] at this; exact this, hb⟩
                case measure => simp [intOf]; omega
            · by_cases r : lo x i < hi x i
              · go_wp2_with (at_builtin; refine wpList_append_new _ rfl _ _ rfl w.heap.size _ _ rfl ho (lo x i) (hi x i) rfl rfl rfl (by omega) hb.size ?_)
                intro v' w' ho' hb'
                go_wp2
                go_roundw
                case rel => exact ⟨j + 1, _, hjt, by go_num, ho', by have := HE2.out; rw [cap_yes (if_neg (by omega)) (if_neg (by omega)) r] at this; exact this, hb.trans hb'⟩
                case measure => simp [intOf]; omega
              · go_wp2
                go_roundw
                case rel => exact ⟨j + 1, _, hjt, by go_num, ho, by have := HE2.out; rw [cap_no (if_neg (by omega)) (if_neg (by omega)) (by omega), List.append_nil] at this; exact this, hb⟩
                case measure => simp [intOf]; omega
        · have HE3 := row_end hjt HE.out
          rw [← HM.out] at HE3
          have HE4 : Hid _ := HE3
          clear HE3 HE
          go_wp2
          go_roundw
          case rel => exact ⟨i + 1, out, hlt, by go_num, ho, HE4, hb⟩
          case measure => simp [intOf]; omega
    · have eR := mdI_end hlt HE0.out
      subst eR
      go_wp2
      go_ret
      exact ⟨_, rfl, ho0, hb0⟩
end Go.Proofs.Ymwhap
