/-
  FromSpans, walked.
-/
import Derived.Test.YmwhapVar
import Derived.Deep.RegionHeld3
import Derived.Deep.RegionWith
namespace Go.Proofs.Ymwhap
open Go.RowKit

/-- The set of the first k spans of S. -/
def frm (S : List (Int × Int)) : Nat → List (Int × Int)
  | 0 => []
  | k + 1 => addL (frm S k) (lo S k) (hi S k)
theorem frm_can (S : List (Int × Int)) : ∀ k, Can (frm S k)
  | 0 => trivial
  | k + 1 => addL_can (frm_can S k) _ _
theorem frm_len (S : List (Int × Int)) : ∀ k, (frm S k).length ≤ k
  | 0 => by simp [frm]
  | k + 1 => by
    have := frm_len S k
    have := addL_length (frm S k) (lo S k) (hi S k)
    rw [frm]
    omega

/-- The result's cell, the variable s behind it, and what it owns. -/
def Var2 (w wr : World) (l : List (Int × Int)) : Prop := ∃ v, wr.cell? ⟨w.heap.size, 0, none⟩ = some (.slice none 0 0) ∧ wr.frozen? ⟨w.heap.size, 0, none⟩ = false ∧ wr.cell? ⟨w.heap.size + 1, 0, none⟩ = some v ∧ wr.frozen? ⟨w.heap.size + 1, 0, none⟩ = false ∧ Sps wr (w.heap.size + 2) v l ∧ Below w.heap.size w wr ∧ w.heap.size + 2 ≤ wr.heap.size
theorem var2_step {w wr w2 : World} {v v' : Value} {l' : List (Int × Int)} (hb : Below w.heap.size w wr) (hz : w.heap.size + 2 ≤ wr.heap.size) (hr : wr.cell? ⟨w.heap.size, 0, none⟩ = some (.slice none 0 0)) (hrf : wr.frozen? ⟨w.heap.size, 0, none⟩ = false)
    (hv : wr.cell? ⟨w.heap.size + 1, 0, none⟩ = some v) (hf : wr.frozen? ⟨w.heap.size + 1, 0, none⟩ = false)
    (hs2 : Sps w2 (w.heap.size + 2) v' l') (hw : Below wr.heap.size wr w2) :
    w2.cell? ⟨w.heap.size + 1, 0, none⟩ = some v ∧ w2.frozen? ⟨w.heap.size + 1, 0, none⟩ = false ∧ Var2 w (w2.setCell ⟨w.heap.size + 1, 0, none⟩ v') l' := by
  have e1 : w2.cell? ⟨w.heap.size + 1, 0, none⟩ = some v := (hw.cell (p := ⟨w.heap.size + 1, 0, none⟩) hz).trans hv
  have e2 : w2.frozen? ⟨w.heap.size + 1, 0, none⟩ = false := (hw.frozen (p := ⟨w.heap.size + 1, 0, none⟩) hz).trans hf
  have e3 : w2.cell? ⟨w.heap.size, 0, none⟩ = some (.slice none 0 0) := (hw.cell (p := ⟨w.heap.size, 0, none⟩) (by simp; omega)).trans hr
  have e4 : w2.frozen? ⟨w.heap.size, 0, none⟩ = false := (hw.frozen (p := ⟨w.heap.size, 0, none⟩) (by simp; omega)).trans hrf
  refine ⟨e1, e2, v', ?_, (World.frozen?_setCell _ _ _ _).trans e4, World.cell?_setCell_same _ _ _ e1, (World.frozen?_setCell _ _ _ _).trans e2, ownsRow_setCell_below hs2 (Nat.lt_succ_self _) _, ?_, ?_⟩
  · rw [World.cell?_setCell_other _ _ _ _ (by simp)]
    exact e3
  · exact (hb.trans (hw.mono (by omega))).setCell (by simp) _
  · have := hw.size
    simp
    omega

set_option maxHeartbeats 1000000 in
theorem from_any (a : Option Addr) (c : Nat) (S : List (Int × Int)) (w : World) (hin : Prs .i64 .i64 w a S) (hn : S.length ≤ 512) :
    Calls Yapv.prog 25 #[.slice a S.length c] w fun e w' => ∃ v', e = .returned (.agg #[v']) ∧ Sps w' w.heap.size v' (frm S S.length) ∧ Below w.heap.size w w' := by
  go_enter Yapv.func25, Yapv.ntmps25
  go_wp2
  go_loopw [4] (fun i wr => ∃ j : Nat, j ≤ S.length ∧ i = .int .i64 j ∧ Var2 w wr (frm S j)) (fun i _ => S.length - (intOf i).toNat)
  case atStart => exact ⟨0, Nat.zero_le _, rfl, ⟨_, by simp [go_sem], by simp [go_sem], by simp [go_sem], by simp [go_sem], World.ownsRow_nil _ _ _ _, ((Below.refl _ _).alloc (Nat.le_refl _) _).alloc (by simp) _, by simp⟩⟩
  case round =>
    obtain ⟨j, hj, rfl, v, hr, hrf, hv, hf, hs, hb, hz⟩ := hrel
    have hbl := frm_len S j
    obtain ⟨av, cv, rfl⟩ := hs.slice
    by_cases hlt : j < S.length
    · obtain ⟨b, o, rfl, hbw, c0, c1, _, _⟩ := (hin.below hb) j hlt
      have hlt' : (j : Int) < (S.length : Int) := by omega
      have hcall := fun w1 hs1 hz1 => add_any (w.heap.size + 2) (.slice av (frm S j).length cv) (frm S j) (lo S j) (hi S j) w1 hs1 hz1 (by omega)
      have HC : Hid _ := hcall
      clear hcall
      go_wp2
      go_region_with (go_at_call 9; refine (HC.out _ ?_ ?_).mono ?_; exact hs; exact hz; rintro e w2 ⟨v', rfl, hs2, hb2⟩; obtain ⟨av', cv', rfl⟩ := hs2.slice; obtain ⟨e1, e2, hV⟩ := var2_step hb hz hr hrf hv hf hs2 (((Below.refl wr.heap.size wr).drew).trans hb2); clear hs2 hb2)
      all_goals
        go_wp2
        go_roundw
        case rel => exact ⟨j + 1, hlt, by go_num, hV⟩
        case measure => simp [intOf]; omega
    · obtain rfl : j = S.length := by omega
      go_wp2
      refine bodyPost_ret (v := .agg #[.slice av (frm S S.length).length cv]) (by simp [results, Yapv.results25, go_sem, World.cell?_setCell_same _ _ (Value.slice av (frm S S.length).length cv) hr]) rfl ⟨_, rfl, ?_, ?_⟩
      · exact Sps.base (ownsRow_setCell_below hs (by simp) _) (by omega)
      · exact hb.setCell (by simp) _
end Go.Proofs.Ymwhap
