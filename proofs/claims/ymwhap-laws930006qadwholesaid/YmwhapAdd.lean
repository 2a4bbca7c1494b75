/-
  (Set).Add, walked.
-/
import Derived.Test.YmwhapAddPlain
import Derived.Test.YmwhapLaws
import Derived.Deep.DeepCutAuto
import Derived.Deep.CutBlock
import Derived.WalkLawsBesides
namespace Go.Proofs.Ymwhap
open Go.RowKit

theorem Sps.base {w : World} {B B' : Nat} {v : Value} {l : List (Int × Int)} (h : Sps w B v l) (hB : B' ≤ B) : Sps w B' v l := by
  obtain ⟨h1, h2⟩ := h
  refine ⟨h1, ?_⟩
  rcases h2 with h2 | ⟨g, cap, cur, rfl, hb, r⟩
  · exact .inl h2
  · exact .inr ⟨g, cap, cur, rfl, Nat.le_trans hB hb, r⟩

/-- Two blocks laid (a receiver's box, a result's cell): what is known of both. -/
theorem two_below {w wr : World} {o p : Obj} (hb : Below (w.heap.size + 2) ((w.alloc o).alloc p) wr) : Below w.heap.size w wr :=
  (((Below.refl _ _).alloc (Nat.le_refl _) o).alloc (by simp) p).trans (hb.mono (by omega))
theorem two_size {w wr : World} {o p : Obj} (hb : Below (w.heap.size + 2) ((w.alloc o).alloc p) wr) : w.heap.size + 2 ≤ wr.heap.size := by
  have := hb.size
  simpa using this
theorem two_cells {w wr : World} {u v : Value} {s t : TypeId} (hb : Below (w.heap.size + 2) ((w.alloc (.cells #[v] s)).alloc (.cells #[u] t)) wr) :
    wr.cell? ⟨w.heap.size, 0, none⟩ = some v ∧ wr.cell? ⟨w.heap.size + 1, 0, none⟩ = some u ∧ wr.frozen? ⟨w.heap.size + 1, 0, none⟩ = false := by
  refine ⟨(hb.cell (p := ⟨w.heap.size, 0, none⟩) (by simp)).trans ?_, (hb.cell (p := ⟨w.heap.size + 1, 0, none⟩) (by simp)).trans ?_, (hb.frozen (p := ⟨w.heap.size + 1, 0, none⟩) (by simp)).trans ?_⟩
  · simp [go_sem]
  · simp [go_sem]
  · simp [go_sem]

set_option maxHeartbeats 1000000 in
set_option maxRecDepth 100000 in
theorem add_any (B : Nat) (v : Value) (l : List (Int × Int)) (a b : Int) (w : World) (hs : Sps w B v l) (hB : B ≤ w.heap.size) (hn : l.length ≤ 1048000) :
    Calls Yapv.prog 9 #[.agg #[v], .int .i64 a, .int .i64 b] w fun e w' => ∃ v', e = .returned (.agg #[v']) ∧ Sps w' B v' (addL l a b) ∧ Below w.heap.size w w' := by
  obtain ⟨av, cv, rfl⟩ := hs.slice
  by_cases hab : b ≤ a
  · go_enter Yapv.func9, Yapv.ntmps9
    go_wp2
    refine bodyPost_ret (v := .agg #[.slice av l.length cv]) (by simp [results, Yapv.results9, go_sem]) rfl ⟨_, rfl, ?_, ?_⟩
    · unfold addL
      rw [if_pos hab]
      exact World.ownsRow.alloc (World.ownsRow.alloc hs _) _
    · exact ((Below.refl _ _).alloc (Nat.le_refl _) _).alloc (by simp) _
  · obtain ⟨R, hR⟩ : ∃ R, R = addL l a b := ⟨_, rfl⟩
    have hRl := addL_length l a b
    rw [← hR] at hRl ⊢
    have HR : Hid (l.take 0 ++ addN a b (l.drop 0) = R) := by rw [hR]; unfold addL; rw [if_neg hab]; rfl
    clear hR
    go_enter Yapv.func9, Yapv.ntmps9
    go_wp2_with (at_make; refine wpList_make_sp _ rfl _ _ rfl (w.heap.size + 2) .i64 .i64 _ (l.length + 1) rfl rfl (by omega) (by omega) (by simp) ?_)
    intro v1 w1 ho1 hb1
    go_upto_block 0 with fail
    go_cut [8, 9] (fun v i wc => ∃ j : Nat, j ≤ l.length ∧ i = .int .i64 j ∧ Sps wc (w.heap.size + 2) v (l.take j) ∧ Hid (l.take j ++ addAbs (l.drop j) a b = R) ∧ Below (w.heap.size + 2) ((w.alloc (Obj.cells #[Value.slice av l.length cv] 25)).alloc (Obj.cells #[Value.slice none 0 0] 25)) wc)
    case first =>
      go_wp2
      go_loopw [8, 9] (fun v i wr => ∃ j : Nat, j ≤ l.length ∧ i = .int .i64 j ∧ Sps wr (w.heap.size + 2) v (l.take j) ∧ Hid (l.take j ++ addN a b (l.drop j) = R) ∧ Below (w.heap.size + 2) ((w.alloc (Obj.cells #[Value.slice av l.length cv] 25)).alloc (Obj.cells #[Value.slice none 0 0] 25)) wr) (fun _ i _ => l.length - (intOf i).toNat)
      case atStart => exact ⟨0, Nat.zero_le _, rfl, ho1, HR, hb1⟩
      case round =>
        clear ho1 hb1 HR
        obtain ⟨j, hj, rfl, ho, HE, hb⟩ := hrel
        obtain ⟨hbox, _, _⟩ := two_cells hb
        by_cases hlt : j < l.length
        · obtain ⟨g, rfl, hBg, hg, c0, c1⟩ := (hs.below (two_below hb)).cells j hlt
          by_cases hp : hi l j < a
          · go_wp2_with (at_builtin; refine wpList_append_new _ rfl _ _ rfl (w.heap.size + 2) _ _ rfl ho (lo l j) (hi l j) rfl rfl rfl (by simp; omega) (two_size hb) ?_)
            intro v' w' ho' hb'
            go_wp2
            go_roundw
            case rel => exact ⟨j + 1, by omega, by go_num, by rw [take_snoc' l j hlt]; exact ho', add_pass hlt HE.out hp, hb.trans hb'⟩
            case measure => simp [intOf]; omega
          · go_wp2
            go_meet
            exact ⟨j, hj, rfl, ho, add_stop hlt HE.out (by omega), hb⟩
        · go_wp2
          go_meet
          exact ⟨j, hj, rfl, ho, add_stop' hlt HE.out, hb⟩
    case rest =>
    obtain ⟨j1, hj1, rfl, ho, HE, hb⟩ := hcut
    clear ho1 hb1 HR hab
    obtain ⟨pre, hpre⟩ : ∃ pre, pre = l.take j1 := ⟨_, rfl⟩
    rw [← hpre] at ho HE
    clear hpre
    have hpl := len_le HE.out
    go_upto_block 2 with fail
    go_cut [1, 2, 9] (fun x y i wd => ∃ (j : Nat) (a' b' : Int), j ≤ l.length ∧ i = .int .i64 j ∧ x = .int .i64 a' ∧ y = .int .i64 b' ∧ Hid ((pre ++ [(a', b')]) ++ l.drop j = R) ∧ wd = wc)
    case first =>
      go_wp2
      go_loop [1, 2, 9] (fun x y i => ∃ (j : Nat) (a' b' : Int), j ≤ l.length ∧ i = .int .i64 j ∧ x = .int .i64 a' ∧ y = .int .i64 b' ∧ Hid (pre ++ addAbs (l.drop j) a' b' = R)) (fun _ _ i => l.length - (intOf i).toNat)
      case atStart => exact ⟨j1, a, b, hj1, rfl, rfl, rfl, HE⟩
      case round =>
        clear HE
        obtain ⟨j, a', b', hj, rfl, rfl, rfl, HE⟩ := hrel
        obtain ⟨hbox, _, _⟩ := two_cells hb
        by_cases hlt : j < l.length
        · obtain ⟨g, rfl, hBg, hg, c0, c1⟩ := (hs.below (two_below hb)).cells j hlt
          by_cases hp : lo l j ≤ b'
          · have HE' := abs_in hlt HE.out hp
            by_cases hq : lo l j < a'
            · rw [if_pos hq] at HE'
              by_cases hr : b' < hi l j
              · rw [if_pos hr] at HE'
                have HE2 : Hid _ := HE'
                clear HE'
                go_wp2
                go_round
                case rel => exact ⟨j + 1, _, _, by omega, by go_num, rfl, rfl, HE2⟩
                case measure => simp [intOf]; omega
              · rw [if_neg hr] at HE'
                have HE2 : Hid _ := HE'
                clear HE'
                go_wp2
                go_round
                case rel => exact ⟨j + 1, _, _, by omega, by go_num, rfl, rfl, HE2⟩
                case measure => simp [intOf]; omega
            · rw [if_neg hq] at HE'
              by_cases hr : b' < hi l j
              · rw [if_pos hr] at HE'
                have HE2 : Hid _ := HE'
                clear HE'
                go_wp2
                go_round
                case rel => exact ⟨j + 1, _, _, by omega, by go_num, rfl, rfl, HE2⟩
                case measure => simp [intOf]; omega
              · rw [if_neg hr] at HE'
                have HE2 : Hid _ := HE'
                clear HE'
                go_wp2
                go_round
                case rel => exact ⟨j + 1, _, _, by omega, by go_num, rfl, rfl, HE2⟩
                case measure => simp [intOf]; omega
          · go_wp2
            go_meet
            exact ⟨j, a', b', hj, rfl, rfl, rfl, abs_out hlt HE.out (by omega), rfl⟩
        · go_wp2
          go_meet
          exact ⟨j, a', b', hj, rfl, rfl, rfl, abs_out' hlt HE.out, rfl⟩
    case rest =>
    clear HE
    obtain ⟨j2, a', b', hj2, rfl, rfl, rfl, HE, hwd⟩ := hcut
    subst hwd
    go_wp2_with (at_builtin; refine wpList_append_new _ rfl _ _ rfl (w.heap.size + 2) _ _ rfl ho a' b' rfl rfl rfl (by omega) (two_size hb) ?_)
    intro v2 w2 ho2 hb2
    have hb3 := hb.trans hb2
    clear hb2 hb ho
    go_wp2
    go_loopw [8, 9] (fun v i wr => ∃ (j : Nat) (out : List (Int × Int)), j ≤ l.length ∧ i = .int .i64 j ∧ Sps wr (w.heap.size + 2) v out ∧ Hid (out ++ l.drop j = R) ∧ Below (w.heap.size + 2) ((w.alloc (Obj.cells #[Value.slice av l.length cv] 25)).alloc (Obj.cells #[Value.slice none 0 0] 25)) wr) (fun _ i _ => l.length - (intOf i).toNat)
    case atStart => exact ⟨j2, _, hj2, rfl, ho2, HE, hb3⟩
    case round =>
      clear ho2 hb3 HE
      obtain ⟨j, out, hj, rfl, ho, HE, hb⟩ := hrel
      obtain ⟨hbox, hres, hfz⟩ := two_cells hb
      have hol := len_le HE.out
      by_cases hlt : j < l.length
      · obtain ⟨g, rfl, hBg, hg, c0, c1⟩ := (hs.below (two_below hb)).cells j hlt
        go_wp2_with (at_builtin; refine wpList_append_new _ rfl _ _ rfl (w.heap.size + 2) _ _ rfl ho (lo l j) (hi l j) rfl rfl rfl (by omega) (two_size hb) ?_)
        intro v' w' ho' hb'
        go_wp2
        go_roundw
        case rel => exact ⟨j + 1, _, by omega, by go_num, ho', tail_step hlt HE.out, hb.trans hb'⟩
        case measure => simp [intOf]; omega
      · have eR := tail_end hlt HE.out
        subst eR
        obtain ⟨ao, co, rfl⟩ := ho.slice
        go_wp2
        refine bodyPost_ret (v := .agg #[.slice ao out.length co]) (by simp [results, Yapv.results9, go_sem, World.cell?_setCell_same _ _ (Value.slice ao out.length co) hres]) rfl ⟨_, rfl, ?_, ?_⟩
        · exact Sps.base (ownsRow_setCell_below ho (by simp) _) (by omega)
        · exact (two_below hb).setCell (by simp) _
end Go.Proofs.Ymwhap
