/-
  (Set).Intersect, walked.
-/
import Derived.Test.YmwhapIntPlain
import Derived.Test.YmwhapRem
import Derived.Deep.DeepCutAuto
import Derived.RegionTactic
import Derived.BigRegion
namespace Go.Proofs.Ymwhap
open Go.RowKit

/-- Three blocks laid (two receivers' boxes, a result's cell). -/
theorem three_below {w wr : World} {o p q : Obj} (hb : Below (w.heap.size + 3) (((w.alloc o).alloc p).alloc q) wr) : Below w.heap.size w wr :=
  ((((Below.refl _ _).alloc (Nat.le_refl _) o).alloc (by simp) p).alloc (by simp; omega) q).trans (hb.mono (by omega))
theorem three_size {w wr : World} {o p q : Obj} (hb : Below (w.heap.size + 3) (((w.alloc o).alloc p).alloc q) wr) : w.heap.size + 3 ≤ wr.heap.size := by
  have := hb.size
  simpa using this
theorem three_cells {w wr : World} {u v z : Value} {s t r : TypeId} (hb : Below (w.heap.size + 3) (((w.alloc (.cells #[v] s)).alloc (.cells #[u] t)).alloc (.cells #[z] r)) wr) :
    wr.cell? ⟨w.heap.size, 0, none⟩ = some v ∧ wr.cell? ⟨w.heap.size + 1, 0, none⟩ = some u ∧ wr.cell? ⟨w.heap.size + 2, 0, none⟩ = some z ∧ wr.frozen? ⟨w.heap.size + 2, 0, none⟩ = false := by
  refine ⟨(hb.cell (p := ⟨w.heap.size, 0, none⟩) (by simp)).trans ?_, (hb.cell (p := ⟨w.heap.size + 1, 0, none⟩) (by simp)).trans ?_, (hb.cell (p := ⟨w.heap.size + 2, 0, none⟩) (by simp)).trans ?_, (hb.frozen (p := ⟨w.heap.size + 2, 0, none⟩) (by simp)).trans ?_⟩
  all_goals simp [go_sem]

/-- A cell behind one new block, and behind two. -/
theorem alloc_keep {w : World} {A : Addr} {v : Value} (h : w.cell? A = some v) : (∀ o, (w.alloc o).cell? A = some v) ∧ ∀ o p, ((w.alloc o).alloc p).cell? A = some v := by
  have hb := World.block_lt_of_cell? w A h
  have h1 : ∀ o, (w.alloc o).cell? A = some v := fun o => (World.cell?_alloc_lt _ _ _ hb).trans h
  exact ⟨h1, fun o p => (World.cell?_alloc_lt _ _ _ (World.block_lt_of_cell? _ A (h1 o))).trans (h1 o)⟩

set_option maxHeartbeats 1000000 in
set_option maxRecDepth 100000 in
theorem int_any (B1 B2 : Nat) (v1 v2 : Value) (x y : List (Int × Int)) (w : World) (h1 : Sps w B1 v1 x) (h2 : Sps w B2 v2 y) (hx : x.length ≤ 10000) (hy : y.length ≤ 10000) :
    Calls Yapv.prog 28 #[.agg #[v1], .agg #[v2]] w fun e w' => ∃ v', e = .returned (.agg #[v']) ∧ Sps w' w.heap.size v' (isN (x.length + y.length) x y) ∧ Below w.heap.size w w' := by
  obtain ⟨a1, c1, rfl⟩ := h1.slice
  obtain ⟨a2, c2, rfl⟩ := h2.slice
  generalize hR : isN (x.length + y.length) x y = R
  have HR : Hid ([] ++ isN (x.length + y.length) (x.drop 0) (y.drop 0) = R) := hR
  clear hR
  go_enter Yapv.func28, Yapv.ntmps28
  go_wp2_with (at_make; refine wpList_make_sp _ rfl _ _ rfl (w.heap.size + 3) .i64 .i64 _ (x.length + y.length) rfl rfl (by omega) (by omega) (by simp) ?_)
  intro v3 w3 ho3 hb3
  go_wp2
  go_loopg [5, 6, 7] (x.length + y.length) (fun k v i j wr => ∃ (p q : Nat) (out : List (Int × Int)), p ≤ x.length ∧ q ≤ y.length ∧ p + q + k = x.length + y.length ∧ i = .int .i64 p ∧ j = .int .i64 q ∧ Sps wr (w.heap.size + 3) v out ∧ out.length ≤ p + q ∧ Hid (out ++ isN k (x.drop p) (y.drop q) = R) ∧
      Below (w.heap.size + 3) (((w.alloc (Obj.cells #[Value.slice a1 x.length c1] 25)).alloc (Obj.cells #[Value.slice a2 y.length c2] 25)).alloc (Obj.cells #[Value.slice none 0 0] 25)) wr)
  case atStart => exact ⟨0, 0, [], Nat.zero_le _, Nat.zero_le _, by omega, rfl, rfl, ho3, Nat.zero_le _, HR, hb3⟩
  case round =>
    clear ho3 hb3 HR
    obtain ⟨i, j, out, hi', hj', hk, rfl, rfl, ho, hol, HE, hb⟩ := hrel
    obtain ⟨hx1, hx2, hres, hfz⟩ := three_cells hb
    have hsz := three_size hb
    by_cases hlt : i < x.length ∧ j < y.length
    · obtain ⟨hl1, hl2⟩ := hlt
      obtain ⟨n, hn⟩ : ∃ n, gk = n + 1 := ⟨gk - 1, by omega⟩
      have hE := HE.out
      rw [hn] at hE
      have HE1 : Hid _ := isN_in hl1 hl2 hE
      clear hE
      have HK : Hid (gk = n + 1 ∧ i + j + gk = x.length + y.length) := ⟨hn, hk⟩
      clear HE hn hk
      obtain ⟨g1, rfl, _, g1l, d0, d1⟩ := (h1.below (three_below hb)).cells i hl1
      obtain ⟨g2, rfl, _, g2l, e0, e1⟩ := (h2.below (three_below hb)).cells j hl2
      have hl1' : (i : Int) < (x.length : Int) := by omega
      have hl2' : (j : Int) < (y.length : Int) := by omega
      obtain ⟨q1, q2⟩ := alloc_keep hx1
      obtain ⟨q3, q4⟩ := alloc_keep hx2
      obtain ⟨q5, q6⟩ := alloc_keep d0
      obtain ⟨q7, q8⟩ := alloc_keep d1
      obtain ⟨q9, q10⟩ := alloc_keep e0
      obtain ⟨q11, q12⟩ := alloc_keep e1
      go_upto_region 4 with fail
      go_cut [8, 9] (fun s8 s9 wx => ∃ P Q : Nat, s8 = .pointer (some ⟨P, 0, none⟩) ∧ s9 = .pointer (some ⟨Q, 0, none⟩) ∧ wr.heap.size ≤ P ∧ wr.heap.size ≤ Q ∧ P < wx.heap.size ∧ Q < wx.heap.size ∧
          wx.cell? ⟨P, 0, none⟩ = some (.int .i64 (lo x i)) ∧ wx.cell? ⟨P, 1, none⟩ = some (.int .i64 (hi x i)) ∧ wx.cell? ⟨Q, 0, none⟩ = some (.int .i64 (lo y j)) ∧ wx.cell? ⟨Q, 1, none⟩ = some (.int .i64 (hi y j)) ∧
          Sps wx (w.heap.size + 3) u5 out ∧ Below (w.heap.size + 3) (((w.alloc (Obj.cells #[Value.slice (some ⟨g1, 0, none⟩) x.length c1] 25)).alloc (Obj.cells #[Value.slice (some ⟨g2, 0, none⟩) y.length c2] 25)).alloc (Obj.cells #[Value.slice none 0 0] 25)) wx)
      case first =>
        go_region
        · go_wp2_with fail
          go_meet
          refine ⟨_, _, rfl, rfl, ?_, ?_, ?_, ?_, ?_, ?_, ?_, ?_, World.ownsRow.alloc (World.ownsRow.alloc ho _) _, ((hb.alloc hsz _).alloc (by simp; omega) _).drew⟩
          all_goals first | (simp [go_sem]; done) | (simp [go_sem]; omega)
        · go_wp2_with fail
          go_meet
          refine ⟨_, _, rfl, rfl, ?_, ?_, ?_, ?_, ?_, ?_, ?_, ?_, World.ownsRow.alloc (World.ownsRow.alloc ho _) _, ((hb.alloc hsz _).alloc (by simp; omega) _).drew⟩
          all_goals first | (simp [go_sem]; done) | (simp [go_sem]; omega)
      case rest =>
      obtain ⟨P, Q, rfl, rfl, hP, hQ, hPl, hQl, p0, p1, r0, r1, hox, hbx⟩ := hcut
      clear q1 q2 q3 q4 q5 q6 q7 q8 q9 q10 q11 q12 hx1 hx2 d0 d1 e0 e1 hb hres hfz
      obtain ⟨hk1, hk2⟩ := HK.out
      clear HK
      have HK : Hid (n < gk ∧ i + j + (n + 1) = x.length + y.length) := ⟨by omega, by omega⟩
      clear hk1 hk2
      have hszx : wr.heap.size < wc.heap.size := by omega
      obtain ⟨p0a, _⟩ := alloc_keep p0
      obtain ⟨p1a, _⟩ := alloc_keep p1
      obtain ⟨r0a, _⟩ := alloc_keep r0
      obtain ⟨r1a, _⟩ := alloc_keep r1
      by_cases p : lo x i < lo y j
      · by_cases q : hi y j < hi x i
        · by_cases r : lo y j < hi y j
          · have HE2 := HE1.out
            rw [cap_yes (if_pos p) (if_pos q) r, if_neg (by omega)] at HE2
            have HE3 : Hid _ := HE2
            clear HE2 HE1
            go_wp2_with (at_builtin; refine wpList_append_keep _ rfl _ _ rfl (w.heap.size + 3) _ _ rfl (World.ownsRow.alloc hox _) (lo y j) (hi y j) _ rfl (by simp) rfl rfl (by omega) (by simp; omega) ?_)
            intro v' w' ho' hb' hgr
            have f1 := keep_cell ho hgr hP (p1a _)
            have f2 := keep_cell ho hgr hQ (r1a _)
            clear hgr
            go_wp2
            go_roundg n
            case rel => exact ⟨i, j + 1, _, hi', hl2, by have := HK.out.2; omega, rfl, by go_num, ho', by simp; omega, HE3, (hbx.alloc (by omega) _).trans hb'⟩
            case measure => exact HK.out.1
          · have HE2 := HE1.out
            rw [cap_no (if_pos p) (if_pos q) (by omega), List.append_nil, if_neg (by omega)] at HE2
            have HE3 : Hid _ := HE2
            clear HE2 HE1
            go_wp2
            go_roundg n
            case rel => exact ⟨i, j + 1, _, hi', hl2, by have := HK.out.2; omega, rfl, by go_num, World.ownsRow.alloc hox _, by omega, HE3, hbx.alloc (by omega) _⟩
            case measure => exact HK.out.1
        · by_cases r : lo y j < hi x i
          · have HE2 := HE1.out
            rw [cap_yes (if_pos p) (if_neg q) r, if_pos (by omega)] at HE2
            have HE3 : Hid _ := HE2
            clear HE2 HE1
            go_wp2_with (at_builtin; refine wpList_append_keep _ rfl _ _ rfl (w.heap.size + 3) _ _ rfl (World.ownsRow.alloc hox _) (lo y j) (hi x i) _ rfl (by simp) rfl rfl (by omega) (by simp; omega) ?_)
            intro v' w' ho' hb' hgr
            have f1 := keep_cell ho hgr hP (p1a _)
            have f2 := keep_cell ho hgr hQ (r1a _)
            clear hgr
            go_wp2
            go_roundg n
            case rel => exact ⟨i + 1, j, _, hl1, hj', by have := HK.out.2; omega, by go_num, rfl, ho', by simp; omega, HE3, (hbx.alloc (by omega) _).trans hb'⟩
            case measure => exact HK.out.1
          · have HE2 := HE1.out
            rw [cap_no (if_pos p) (if_neg q) (by omega), List.append_nil, if_pos (by omega)] at HE2
            have HE3 : Hid _ := HE2
            clear HE2 HE1
            go_wp2
            go_roundg n
            case rel => exact ⟨i + 1, j, _, hl1, hj', by have := HK.out.2; omega, by go_num, rfl, World.ownsRow.alloc hox _, by omega, HE3, hbx.alloc (by omega) _⟩
            case measure => exact HK.out.1
      · by_cases q : hi y j < hi x i
        · by_cases r : lo x i < hi y j
          · have HE2 := HE1.out
            rw [cap_yes (if_neg p) (if_pos q) r, if_neg (by omega)] at HE2
            have HE3 : Hid _ := HE2
            clear HE2 HE1
            go_wp2_with (at_builtin; refine wpList_append_keep _ rfl _ _ rfl (w.heap.size + 3) _ _ rfl (World.ownsRow.alloc hox _) (lo x i) (hi y j) _ rfl (by simp) rfl rfl (by omega) (by simp; omega) ?_)
            intro v' w' ho' hb' hgr
            have f1 := keep_cell ho hgr hP (p1a _)
            have f2 := keep_cell ho hgr hQ (r1a _)
            clear hgr
            go_wp2
            go_roundg n
            case rel => exact ⟨i, j + 1, _, hi', hl2, by have := HK.out.2; omega, rfl, by go_num, ho', by simp; omega, HE3, (hbx.alloc (by omega) _).trans hb'⟩
            case measure => exact HK.out.1
          · have HE2 := HE1.out
            rw [cap_no (if_neg p) (if_pos q) (by omega), List.append_nil, if_neg (by omega)] at HE2
            have HE3 : Hid _ := HE2
            clear HE2 HE1
            go_wp2
            go_roundg n
            case rel => exact ⟨i, j + 1, _, hi', hl2, by have := HK.out.2; omega, rfl, by go_num, World.ownsRow.alloc hox _, by omega, HE3, hbx.alloc (by omega) _⟩
            case measure => exact HK.out.1
        · by_cases r : lo x i < hi x i
          · have HE2 := HE1.out
            rw [cap_yes (if_neg p) (if_neg q) r, if_pos (by omega)] at HE2
            have HE3 : Hid _ := HE2
            clear HE2 HE1
            go_wp2_with (at_builtin; refine wpList_append_keep _ rfl _ _ rfl (w.heap.size + 3) _ _ rfl (World.ownsRow.alloc hox _) (lo x i) (hi x i) _ rfl (by simp) rfl rfl (by omega) (by simp; omega) ?_)
            intro v' w' ho' hb' hgr
            have f1 := keep_cell ho hgr hP (p1a _)
            have f2 := keep_cell ho hgr hQ (r1a _)
            clear hgr
            go_wp2
            go_roundg n
            case rel => exact ⟨i + 1, j, _, hl1, hj', by have := HK.out.2; omega, by go_num, rfl, ho', by simp; omega, HE3, (hbx.alloc (by omega) _).trans hb'⟩
            case measure => exact HK.out.1
          · have HE2 := HE1.out
            rw [cap_no (if_neg p) (if_neg q) (by omega), List.append_nil, if_pos (by omega)] at HE2
            have HE3 : Hid _ := HE2
            clear HE2 HE1
            go_wp2
            go_roundg n
            case rel => exact ⟨i + 1, j, _, hl1, hj', by have := HK.out.2; omega, by go_num, rfl, World.ownsRow.alloc hox _, by omega, HE3, hbx.alloc (by omega) _⟩
            case measure => exact HK.out.1
    · have eR := isN_out hlt HE.out
      subst eR
      obtain ⟨ao, co, rfl⟩ := ho.slice
      by_cases hl1 : i < x.length
      · have hl2 : ¬ j < y.length := fun h => hlt ⟨hl1, h⟩
        go_wp2
        refine bodyPost_ret (v := .agg #[.slice ao out.length co]) (by simp [results, Yapv.results28, go_sem, World.cell?_setCell_same _ _ (Value.slice ao out.length co) hres]) rfl ⟨_, rfl, ?_, ?_⟩
        · exact Sps.base (ownsRow_setCell_below ho (by simp) _) (by omega)
        · exact (three_below hb).setCell (by simp; omega) _
      · go_wp2
        refine bodyPost_ret (v := .agg #[.slice ao out.length co]) (by simp [results, Yapv.results28, go_sem, World.cell?_setCell_same _ _ (Value.slice ao out.length co) hres]) rfl ⟨_, rfl, ?_, ?_⟩
        · exact Sps.base (ownsRow_setCell_below ho (by simp) _) (by omega)
        · exact (three_below hb).setCell (by simp; omega) _
end Go.Proofs.Ymwhap
