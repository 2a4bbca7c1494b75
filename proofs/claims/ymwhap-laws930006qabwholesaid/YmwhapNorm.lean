/-
  The mapping of a span, and the set built from the mapped spans, walked.
-/
import Derived.Test.YmwhapPush
import Derived.Test.YmwhapFrom
namespace Go.Proofs.Ymwhap
open Go.RowKit

/-- A cell behind one new block, and behind two. -/
theorem alloc_keep' {w : World} {A : Addr} {v : Value} (h : w.cell? A = some v) : (∀ o, (w.alloc o).cell? A = some v) ∧ ∀ o p, ((w.alloc o).alloc p).cell? A = some v := by
  have hb := World.block_lt_of_cell? w A h
  have h1 : ∀ o, (w.alloc o).cell? A = some v := fun o => (World.cell?_alloc_lt _ _ _ hb).trans h
  exact ⟨h1, fun o p => (World.cell?_alloc_lt _ _ _ (World.block_lt_of_cell? _ A (h1 o))).trans (h1 o)⟩

/-- A result's cell written behind a draw. -/
theorem res_cells (w : World) (o : Obj) (u v : Value) (n : Nat) (x y : Value) :
    (((((w.alloc o).alloc (.cells #[u, v] 31)).drewN n).setCell ⟨w.heap.size + 1, 0, none⟩ x).setCell ⟨w.heap.size + 1, 1, none⟩ y).cell? ⟨w.heap.size + 1, 0, none⟩ = some x ∧
    (((((w.alloc o).alloc (.cells #[u, v] 31)).drewN n).setCell ⟨w.heap.size + 1, 0, none⟩ x).setCell ⟨w.heap.size + 1, 1, none⟩ y).cell? ⟨w.heap.size + 1, 1, none⟩ = some y ∧
    Below w.heap.size w (((((w.alloc o).alloc (.cells #[u, v] 31)).drewN n).setCell ⟨w.heap.size + 1, 0, none⟩ x).setCell ⟨w.heap.size + 1, 1, none⟩ y) := by
  have h0 : (((w.alloc o).alloc (.cells #[u, v] 31)).drewN n).cell? ⟨w.heap.size + 1, 0, none⟩ = some u := by
    show ((w.alloc o).alloc (.cells #[u, v] 31)).cell? ⟨w.heap.size + 1, 0, none⟩ = some u
    simp [go_sem]
  have h1 : (((w.alloc o).alloc (.cells #[u, v] 31)).drewN n).cell? ⟨w.heap.size + 1, 1, none⟩ = some v := by
    show ((w.alloc o).alloc (.cells #[u, v] 31)).cell? ⟨w.heap.size + 1, 1, none⟩ = some v
    simp [go_sem]
  refine ⟨?_, ?_, ?_⟩
  · rw [World.cell?_setCell_other _ _ _ _ (by simp)]
    exact World.cell?_setCell_same _ _ _ h0
  · have h2 : ((((w.alloc o).alloc (.cells #[u, v] 31)).drewN n).setCell ⟨w.heap.size + 1, 0, none⟩ x).cell? ⟨w.heap.size + 1, 1, none⟩ = some v := by
      rw [World.cell?_setCell_other _ _ _ _ (by simp)]
      exact h1
    exact World.cell?_setCell_same _ _ _ h2
  · exact ((below_drewN (((Below.refl _ _).alloc (Nat.le_refl _) _).alloc (by simp) _) _).setCell (by simp) _).setCell (by simp) _

set_option maxHeartbeats 1000000 in
theorem norm_some (a b : Int) (q : Int × Int) (w : World) (ha : I64 a) (hb : I64 b) (h : nrm a b = some q) :
    Calls Yapv.prog 32 #[.agg #[.int .i64 a, .int .i64 b]] w fun e w' => e = .returned (.tuple #[.agg #[.int .i64 q.1, .int .i64 q.2], .bool true]) ∧ Below w.heap.size w w' := by
  obtain ⟨ha1, ha2⟩ := ha
  obtain ⟨hb1, hb2⟩ := hb
  unfold nrm at h
  by_cases h1 : b < a
  · rw [if_pos h1] at h
    obtain rfl := Option.some.inj h
    have e1 : (b == a) = false := beq_eq_false_iff_ne.2 (by omega)
    clear h
    go_enter Yapv.func32, Yapv.ntmps32
    go_wp2
    go_quiet (fail)
    go_wp2
    have hr := res_cells w (.cells #[.int .i64 a, .int .i64 b] 31) (.int .i64 0) (.int .i64 0) nq (.int .i64 b) (.int .i64 a)
    exact bodyPost_ret (v := .tuple #[.agg #[.int .i64 b, .int .i64 a], .bool true]) (by simp [results, Yapv.results32, go_sem, hr.1, hr.2.1]) rfl ⟨rfl, hr.2.2⟩
  · rw [if_neg h1] at h
    by_cases h2 : a = b
    · subst h2
      rw [if_pos rfl] at h
      by_cases h3 : a = 9223372036854775807
      · rw [if_pos h3] at h
        cases h
      · rw [if_neg h3] at h
        obtain rfl := Option.some.inj h
        have e2 : (a == 9223372036854775807) = false := beq_eq_false_iff_ne.2 h3
        have h4 : a < 9223372036854775807 := by omega
        clear h h3
        go_enter Yapv.func32, Yapv.ntmps32
        go_wp2
        go_quiet (fail)
        go_wp2
        have hr := res_cells w (.cells #[.int .i64 a, .int .i64 a] 31) (.int .i64 0) (.int .i64 0) nq (.int .i64 a) (.int .i64 (a + 1))
        exact bodyPost_ret (v := .tuple #[.agg #[.int .i64 a, .int .i64 (a + 1)], .bool true]) (by simp [results, Yapv.results32, go_sem, hr.1, hr.2.1]) rfl ⟨rfl, hr.2.2⟩
    · rw [if_neg h2] at h
      obtain rfl := Option.some.inj h
      have e1 : (a == b) = false := beq_eq_false_iff_ne.2 h2
      clear h h2
      go_enter Yapv.func32, Yapv.ntmps32
      go_wp2
      go_quiet (fail)
      go_wp2
      have hr := res_cells w (.cells #[.int .i64 a, .int .i64 b] 31) (.int .i64 0) (.int .i64 0) nq (.int .i64 a) (.int .i64 b)
      exact bodyPost_ret (v := .tuple #[.agg #[.int .i64 a, .int .i64 b], .bool true]) (by simp [results, Yapv.results32, go_sem, hr.1, hr.2.1]) rfl ⟨rfl, hr.2.2⟩

set_option maxHeartbeats 1000000 in
theorem norm_none (a b : Int) (w : World) (h : nrm a b = none) :
    Calls Yapv.prog 32 #[.agg #[.int .i64 a, .int .i64 b]] w fun e w' => e = .returned (.tuple #[.agg #[.int .i64 0, .int .i64 0], .bool false]) ∧ Below w.heap.size w w' := by
  unfold nrm at h
  by_cases h1 : b < a
  · rw [if_pos h1] at h
    cases h
  · rw [if_neg h1] at h
    by_cases h2 : a = b
    · subst h2
      rw [if_pos rfl] at h
      by_cases h3 : a = 9223372036854775807
      · have e2 : (a == 9223372036854775807) = true := beq_iff_eq.2 h3
        clear h h3
        go_enter Yapv.func32, Yapv.ntmps32
        go_wp2
        go_quiet (fail)
        go_wp2
        have hr := res_cells w (.cells #[.int .i64 a, .int .i64 a] 31) (.int .i64 0) (.int .i64 0) nq (.int .i64 0) (.int .i64 0)
        exact bodyPost_ret (v := .tuple #[.agg #[.int .i64 0, .int .i64 0], .bool false]) (by simp [results, Yapv.results32, go_sem, hr.1, hr.2.1]) rfl ⟨rfl, hr.2.2⟩
      · rw [if_neg h3] at h
        cases h
    · rw [if_neg h2] at h
      cases h

set_option maxHeartbeats 1000000 in
theorem build_any (a : Option Addr) (c : Nat) (S : List (Int × Int)) (w : World) (hin : Prs .i64 .i64 w a S) (hI : ∀ k, k < S.length → I64 (lo S k) ∧ I64 (hi S k)) (hn : S.length ≤ 512) :
    Calls Yapv.prog 14 #[.slice a S.length c] w fun e w' => ∃ v', e = .returned (.agg #[v']) ∧ Sps w' w.heap.size v' (bu S S.length) ∧ Below w.heap.size w w' := by
  go_enter Yapv.func14, Yapv.ntmps14
  go_wp2
  go_loopw [4] (fun i wr => ∃ j : Nat, j ≤ S.length ∧ i = .int .i64 j ∧ Var2 w wr (bu S j)) (fun i _ => S.length - (intOf i).toNat)
  case atStart => exact ⟨0, Nat.zero_le _, rfl, ⟨_, by simp [go_sem], by simp [go_sem], by simp [go_sem], by simp [go_sem], World.ownsRow_nil _ _ _ _, ((Below.refl _ _).alloc (Nat.le_refl _) _).alloc (by simp) _, by simp⟩⟩
  case round =>
    obtain ⟨j, hj, rfl, v, hr, hrf, hv, hf, hs, hb, hz⟩ := hrel
    have hbl := bu_len S j
    obtain ⟨av, cv, rfl⟩ := hs.slice
    by_cases hlt : j < S.length
    · obtain ⟨b, o, rfl, hbw, c0, c1, _, _⟩ := (hin.below hb) j hlt
      obtain ⟨i0, i1⟩ := hI j hlt
      cases hq : nrm (lo S j) (hi S j) with
      | some q =>
        have HQ : Hid (bu S (j + 1) = addL (bu S j) q.1 q.2) := bu_some hq
        have HN : Hid (nrm (lo S j) (hi S j) = some q) := hq
        clear hq
        go_wp2_with fail
        refine (norm_some _ _ q _ i0 i1 HN.out).mono ?_
        rintro e w1 ⟨rfl, hb1⟩
        have k1 := cell_later hb1 hv
        obtain ⟨k1a, _⟩ := alloc_keep' k1
        go_wp2_with fail
        refine (add_any (w.heap.size + 2) _ (bu S j) _ _ _ (World.ownsRow.alloc (hs.below hb1) _) (by have := hb1.size; simp; omega) (by omega)).mono ?_
        rintro e w2 ⟨v', rfl, hs2, hb2⟩
        rw [← HQ.out] at hs2
        obtain ⟨av', cv', rfl⟩ := hs2.slice
        have hb3 : Below wr.heap.size wr w2 := (hb1.alloc hb1.size _).trans (hb2.mono (by have := hb1.size; simp; omega))
        obtain ⟨e1, e2, hV⟩ := var2_step hb hz hr hrf hv hf hs2 hb3
        clear hs2 hb2 hs hb hv hf hz c0 c1 hb1 hb3 k1 k1a hr hrf HN HQ
        go_wp2
        go_roundw
        case rel => exact ⟨j + 1, hlt, by go_num, hV⟩
        case measure => simp [intOf]; omega
      | none =>
        have HQ : Hid (bu S (j + 1) = bu S j) := bu_none hq
        have HN : Hid (nrm (lo S j) (hi S j) = none) := hq
        clear hq
        go_wp2_with fail
        refine (norm_none _ _ _ HN.out).mono ?_
        rintro e w1 ⟨rfl, hb1⟩
        go_wp2
        go_roundw
        case rel =>
          refine ⟨j + 1, hlt, by go_num, .slice av (bu S j).length cv, ?_⟩
          rw [HQ.out]
          have hb2 : Below wr.heap.size wr (w1.alloc (.cells #[.int .i64 0, .int .i64 0] 31)) := hb1.alloc hb1.size _
          refine ⟨cell_later hb2 hr, (hb2.frozen (p := ⟨w.heap.size, 0, none⟩) (by simp; omega)).trans hrf, cell_later hb2 hv, (hb2.frozen (p := ⟨w.heap.size + 1, 0, none⟩) (by simp; omega)).trans hf, hs.below hb2, hb.trans (hb2.mono hb.size), ?_⟩
          have := hb2.size
          omega
        case measure => simp [intOf]; omega
    · obtain rfl : j = S.length := by omega
      go_wp2
      refine bodyPost_ret (v := .agg #[.slice av (bu S S.length).length cv]) (by simp [results, Yapv.results14, go_sem, World.cell?_setCell_same _ _ (Value.slice av (bu S S.length).length cv) hr]) rfl ⟨_, rfl, ?_, ?_⟩
      · exact Sps.base (ownsRow_setCell_below hs (by simp) _) (by omega)
      · exact hb.setCell (by simp) _
end Go.Proofs.Ymwhap
