/-
  (Set).Union, walked.
-/
import Derived.Test.YmwhapPush
import Derived.Test.YmwhapInt
namespace Go.Proofs.Ymwhap
open Go.RowKit

/-- What holds of the list out when i spans of X and j of Y have been pushed. -/
def UI (X Y : List (Int × Int)) (i j : Nat) (out : List (Int × Int)) : Prop :=
  Can out ∧ (∀ z, Mem out z ↔ Mem (X.take i) z ∨ Mem (Y.take j) z) ∧ (∀ q ∈ out, (i < X.length → q.1 ≤ lo X i) ∧ (j < Y.length → q.1 ≤ lo Y j)) ∧ out.length ≤ i + j
theorem ui_start (X Y : List (Int × Int)) : UI X Y 0 0 [] := ⟨trivial, fun z => by simp [mem_nil], fun q hq => (by cases hq), Nat.zero_le _⟩
theorem can_up {l : List (Int × Int)} (hc : Can l) {k : Nat} (h : k + 1 < l.length) : lo l k ≤ lo l (k + 1) := by
  have h1 := can_apart hc (j := k) (k := k + 1) (by omega) h
  have h2 := can_lt hc (k := k) (by omega)
  omega
theorem mem_take_snoc {l : List (Int × Int)} {k : Nat} (h : k < l.length) (z : Int) : Mem (l.take (k + 1)) z ↔ Mem (l.take k) z ∨ (lo l k ≤ z ∧ z < hi l k) := by
  rw [take_snoc' l k h, mem_append, mem_cons]
  simp [mem_nil]
theorem ui_left {X Y : List (Int × Int)} {i j : Nat} {out : List (Int × Int)} (hX : Can X) (h : UI X Y i j out) (hi' : i < X.length) (hle : j < Y.length → lo X i ≤ lo Y j) : UI X Y (i + 1) j (psh out (lo X i) (hi X i)) := by
  obtain ⟨h1, h2, h3, h4⟩ := h
  obtain ⟨p1, p2, p3⟩ := psh_ok h1 (fun q hq => (h3 q hq).1 hi') (can_lt hX hi')
  refine ⟨p1, fun z => ?_, fun q hq => ?_, by have := psh_length out (lo X i) (hi X i); omega⟩
  · rw [p2 z, h2 z, mem_take_snoc hi' z]
    constructor
    · rintro ((h | h) | h)
      · exact .inl (.inl h)
      · exact .inr h
      · exact .inl (.inr h)
    · rintro ((h | h) | h)
      · exact .inl (.inl h)
      · exact .inr h
      · exact .inl (.inr h)
  · have := p3 q hq
    exact ⟨fun h => by have := can_up hX h; omega, fun h => by have := hle h; omega⟩
theorem ui_right {X Y : List (Int × Int)} {i j : Nat} {out : List (Int × Int)} (hY : Can Y) (h : UI X Y i j out) (hj' : j < Y.length) (hle : i < X.length → lo Y j ≤ lo X i) : UI X Y i (j + 1) (psh out (lo Y j) (hi Y j)) := by
  obtain ⟨h1, h2, h3, h4⟩ := h
  obtain ⟨p1, p2, p3⟩ := psh_ok h1 (fun q hq => (h3 q hq).2 hj') (can_lt hY hj')
  refine ⟨p1, fun z => ?_, fun q hq => ?_, by have := psh_length out (lo Y j) (hi Y j); omega⟩
  · rw [p2 z, h2 z, mem_take_snoc hj' z, or_assoc]
  · have := p3 q hq
    exact ⟨fun h => by have := hle h; omega, fun h => by have := can_up hY h; omega⟩
theorem ui_end {X Y : List (Int × Int)} {i j : Nat} {out : List (Int × Int)} (h : UI X Y i j out) (hi' : ¬ i < X.length) (hj' : ¬ j < Y.length) : ∀ z, Mem out z ↔ Mem X z ∨ Mem Y z := by
  intro z
  rw [h.2.1 z, List.take_of_length_le (by omega), List.take_of_length_le (by omega)]

set_option maxHeartbeats 1000000 in
set_option maxRecDepth 100000 in
theorem union_any (B1 B2 : Nat) (v1 v2 : Value) (X Y : List (Int × Int)) (w : World) (h1 : Sps w B1 v1 X) (h2 : Sps w B2 v2 Y) (hX : Can X) (hY : Can Y) (hx : X.length ≤ 10000) (hy : Y.length ≤ 10000) :
    Calls Yapv.prog 16 #[.agg #[v1], .agg #[v2]] w fun e w' => ∃ v' R, e = .returned (.agg #[v']) ∧ Sps w' w.heap.size v' R ∧ R.length ≤ X.length + Y.length ∧ Can R ∧ (∀ z, Mem R z ↔ Mem X z ∨ Mem Y z) ∧ Below w.heap.size w w' := by
  obtain ⟨a1, c1, rfl⟩ := h1.slice
  obtain ⟨a2, c2, rfl⟩ := h2.slice
  go_enter Yapv.func16, Yapv.ntmps16
  go_wp2_with (at_make; refine wpList_make_sp _ rfl _ _ rfl (w.heap.size + 3) .i64 .i64 _ (X.length + Y.length) rfl rfl (by omega) (by omega) (by simp) ?_)
  intro v3 w3 ho3 hb3
  go_wp2
  go_loopw [5, 6, 7] (fun v i j wr => ∃ (p q : Nat) (out : List (Int × Int)), p ≤ X.length ∧ q ≤ Y.length ∧ i = .int .i64 p ∧ j = .int .i64 q ∧ Sps wr (w.heap.size + 3) v out ∧ UI X Y p q out ∧
      Below (w.heap.size + 3) (((w.alloc (Obj.cells #[Value.slice a1 X.length c1] 25)).alloc (Obj.cells #[Value.slice a2 Y.length c2] 25)).alloc (Obj.cells #[Value.slice none 0 0] 25)) wr) (fun _ i j _ => (X.length - (intOf i).toNat) + (Y.length - (intOf j).toNat))
  case atStart => exact ⟨0, 0, [], Nat.zero_le _, Nat.zero_le _, rfl, rfl, ho3, ui_start X Y, hb3⟩
  case round =>
    clear ho3 hb3
    obtain ⟨i, j, out, hi', hj', rfl, rfl, ho, hU, hb⟩ := hrel
    obtain ⟨hx1, hx2, hres, hfz⟩ := three_cells hb
    have hsz := three_size hb
    have hol := hU.2.2.2
    by_cases hli : i < X.length
    · obtain ⟨g1, rfl, _, g1l, d0, d1⟩ := (h1.below (three_below hb)).cells i hli
      have hli' : (i : Int) < (X.length : Int) := by omega
      have hlid : decide ((i : Int) < (X.length : Int)) = true := decide_eq_true hli'
      by_cases hlj : j < Y.length
      · obtain ⟨g2, rfl, _, g2l, e0, e1⟩ := (h2.below (three_below hb)).cells j hlj
        have hlj' : (j : Int) < (Y.length : Int) := by omega
        have hje : ((j : Int) == (Y.length : Int)) = false := beq_eq_false_iff_ne.2 (by omega)
        by_cases hc : lo X i ≤ lo Y j
        · go_wp2
          go_quiet (fail)
          go_wp2_with fail
          refine (push_any (w.heap.size + 3) _ out _ _ (wr.drewN nq) ho hsz (by omega)).mono ?_
          rintro e w4 ⟨v', rfl, ho4, hb4⟩
          have hb5 := (below_drewN hb _).trans hb4
          have hU4 := ui_left hX hU hli (fun _ => hc)
          clear hb4 hb ho hU hx1 hx2 hres hfz d0 d1
          go_wp2
          go_roundw
          case rel => exact ⟨i + 1, j, _, hli, hj', by go_num, rfl, ho4, hU4, hb5⟩
          case measure => simp [intOf]; omega
        · have hcd : decide (lo X i ≤ lo Y j) = false := decide_eq_false hc
          go_wp2
          go_quiet (fail)
          go_wp2_with fail
          refine (push_any (w.heap.size + 3) _ out _ _ (wr.drewN nq) ho hsz (by omega)).mono ?_
          rintro e w4 ⟨v', rfl, ho4, hb4⟩
          have hb5 := (below_drewN hb _).trans hb4
          have hU4 := ui_right hY hU hlj (fun _ => by omega)
          clear hb4 hb ho hU hx1 hx2 hres hfz e0 e1
          go_wp2
          go_roundw
          case rel => exact ⟨i, j + 1, _, hi', hlj, rfl, by go_num, ho4, hU4, hb5⟩
          case measure => simp [intOf]; omega
      · have hje : ((j : Int) == (Y.length : Int)) = true := beq_iff_eq.2 (by omega)
        go_wp2
        go_quiet (fail)
        go_wp2_with fail
        refine (push_any (w.heap.size + 3) _ out _ _ (wr.drewN nq) ho hsz (by omega)).mono ?_
        rintro e w4 ⟨v', rfl, ho4, hb4⟩
        have hb5 := (below_drewN hb _).trans hb4
        have hU4 := ui_left hX hU hli (fun h => absurd h hlj)
        clear hb4 hb ho hU hx1 hx2 hres hfz d0 d1
        go_wp2
        go_roundw
        case rel => exact ⟨i + 1, j, _, hli, hj', by go_num, rfl, ho4, hU4, hb5⟩
        case measure => simp [intOf]; omega
    · have hli' : ¬ (i : Int) < (X.length : Int) := by omega
      have hlid : decide ((i : Int) < (X.length : Int)) = false := decide_eq_false hli'
      by_cases hlj : j < Y.length
      · obtain ⟨g2, rfl, _, g2l, e0, e1⟩ := (h2.below (three_below hb)).cells j hlj
        have hlj' : (j : Int) < (Y.length : Int) := by omega
        have hje : ((j : Int) == (Y.length : Int)) = false := beq_eq_false_iff_ne.2 (by omega)
        go_wp2
        go_quiet (fail)
        go_wp2_with fail
        refine (push_any (w.heap.size + 3) _ out _ _ (wr.drewN nq) ho hsz (by omega)).mono ?_
        rintro e w4 ⟨v', rfl, ho4, hb4⟩
        have hb5 := (below_drewN hb _).trans hb4
        have hU4 := ui_right hY hU hlj (fun h => absurd h hli)
        clear hb4 hb ho hU hx1 hx2 hres hfz e0 e1
        go_wp2
        go_roundw
        case rel => exact ⟨i, j + 1, _, hi', hlj, rfl, by go_num, ho4, hU4, hb5⟩
        case measure => simp [intOf]; omega
      · have hm := ui_end hU hli hlj
        have hC := hU.1
        obtain ⟨ao, co, rfl⟩ := ho.slice
        go_wp2
        refine bodyPost_ret (v := .agg #[.slice ao out.length co]) (by simp [results, Yapv.results16, go_sem, World.cell?_setCell_same _ _ (Value.slice ao out.length co) hres]) rfl ⟨_, rfl, out, ?_, by omega, hC, hm, ?_⟩
        · exact Sps.base (ownsRow_setCell_below ho (by simp) _) (by omega)
        · exact (three_below hb).setCell (by simp; omega) _
end Go.Proofs.Ymwhap
