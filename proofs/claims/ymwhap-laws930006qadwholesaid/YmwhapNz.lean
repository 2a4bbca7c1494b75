/-
  qadnorm, slices.Clone and slices.Equal at spans, (Set).Count: walked.
-/
import Derived.Test.YmwhapCntPlain
import Derived.Test.YmwhapLaws
import Derived.Deep.QuietTactic
import Derived.BigQuiet
import Derived.WalkLawsBesides
namespace Go.Proofs.Ymwhap
open Go.RowKit

/-- A step's range, its bounds in order. -/
def nz (p : Int × Int) : Int × Int := (if p.2 < p.1 then p.2 else p.1, if p.2 < p.1 then p.1 else p.2)
theorem lo_nz {P : List (Int × Int)} {k : Nat} (h : k < P.length) : (if hi P k < lo P k then hi P k else lo P k) = lo (P.map nz) k := by
  simp [lo, hi, nz, List.getD, h]
theorem hi_nz {P : List (Int × Int)} {k : Nat} (h : k < P.length) : (if hi P k < lo P k then lo P k else hi P k) = hi (P.map nz) k := by
  simp [lo, hi, nz, List.getD, h]

set_option maxHeartbeats 400000 in
theorem norm_any (o a b x y : Int) (w : World) (hx : (if b < a then b else a) = x) (hy : (if b < a then a else b) = y) :
    Calls Yapv.prog 19 #[.agg #[.int .u8 o, .int .i64 a, .int .i64 b]] w fun e w' => e = .returned (.tuple #[.int .i64 x, .int .i64 y]) ∧ Below w.heap.size w w' := by
  subst hx hy
  by_cases h : b < a
  · simp only [if_pos h]
    go_enter Yapv.func19, Yapv.ntmps19
    go_wp2
    go_quiet (fail)
    go_wp2
    go_ret2
    exact ⟨rfl, below_drewN ((Below.refl _ _).alloc (Nat.le_refl _) _) _⟩
  · simp only [if_neg h]
    go_enter Yapv.func19, Yapv.ntmps19
    go_wp2
    go_quiet (fail)
    go_wp2
    go_ret2
    exact ⟨rfl, below_drewN ((Below.refl _ _).alloc (Nat.le_refl _) _) _⟩

set_option maxHeartbeats 400000 in
theorem count_any (B : Nat) (v : Value) (l : List (Int × Int)) (w : World) (hs : Sps w B v l) (hn : l.length ≤ 1048576) (hB : Bd l) :
    Calls Yapv.prog 21 #[.agg #[v]] w fun e w' => e = .returned (.int .u64 (cntL l 0)) ∧ Below w.heap.size w w' := by
  obtain ⟨a, c, rfl⟩ := hs.slice
  generalize hr : cntL l 0 = r
  have HR : Hid (cntL (l.drop 0) 0 = r) := hr
  clear hr
  go_enter Yapv.func21, Yapv.ntmps21
  go_wp2
  go_loopw [3, 4] (fun t i wr => ∃ (j : Nat) (q : Int), j ≤ l.length ∧ i = .int .i64 j ∧ t = .int .u64 q ∧ Hid (cntL (l.drop j) q = r) ∧ Below (w.heap.size + 1) (w.alloc (.cells #[.slice a l.length c] 25)) wr)
    (fun _ i _ => l.length - (intOf i).toNat)
  case atStart => exact ⟨0, 0, Nat.zero_le _, rfl, rfl, HR, Below.refl _ _⟩
  case round =>
    clear HR
    obtain ⟨j, q, hj, rfl, rfl, HS, hb⟩ := hrel
    have hbox := box_cell hb
    have hsz := box_size hb
    by_cases hlt : j < l.length
    · obtain ⟨g, rfl, hBg, hg, c0, c1⟩ := (hs.below (box_below hb)).cells j hlt
      obtain ⟨i0, i1⟩ := hB.at hlt
      go_wp2_with (go_at_call 31; refine (size_any _ _ i0 i1 _).mono ?_; rintro e w' ⟨rfl, rfl⟩)
      go_roundw
      case rel => exact ⟨j + 1, _, hlt, by go_num, rfl, cnt_step hlt HS.out, hb.alloc hsz _⟩
      case measure => simp [intOf]; omega
    · go_wp2
      go_ret
      rw [cnt_end hlt HS.out]
      exact ⟨rfl, box_below hb⟩

set_option maxHeartbeats 400000 in
theorem equal_any (B1 B2 : Nat) (v1 v2 : Value) (l : List (Int × Int)) (w : World) (h1 : Sps w B1 v1 l) (h2 : Sps w B2 v2 l) (hn : l.length ≤ 1048576) :
    Calls Yapv.prog 23 #[v1, v2] w fun e w' => e = .returned (.bool true) ∧ Below w.heap.size w w' := by
  obtain ⟨a1, c1, rfl⟩ := h1.slice
  obtain ⟨a2, c2, rfl⟩ := h2.slice
  go_enter Yapv.func23, Yapv.ntmps23
  go_wp2
  go_loopw [13] (fun i wx => ∃ j : Nat, j ≤ l.length ∧ i = .int .i64 j ∧ Below w.heap.size w wx) (fun i _ => l.length - (intOf i).toNat)
  case atStart => exact ⟨0, Nat.zero_le _, rfl, Below.refl _ _⟩
  case round =>
    obtain ⟨j, hj, rfl, hbx⟩ := hrel
    by_cases hlt : j < l.length
    · obtain ⟨g1, rfl, _, g1l, d0, d1⟩ := (h1.below hbx).cells j hlt
      obtain ⟨g2, rfl, _, g2l, e0, e1⟩ := (h2.below hbx).cells j hlt
      have hlt' : (j : Int) < (l.length : Int) := by omega
      go_wp2
      go_quiet (fail)
      go_wp2
      go_roundw
      case rel => exact ⟨j + 1, hlt, by go_num, below_drewN hbx _⟩
      case measure => simp [intOf]; omega
    · go_wp2
      go_ret
      exact ⟨rfl, hbx⟩

/-- 'append([]Span{}, s...)'. -/
theorem wpList_append_all (w : World) {ops : Array Oper} {rest : List Oper} {o : Oper} {a : Act} {Q : Exit → Act → World → Prop} (hg : o.guard = none) (s x : Operand)
    (hop : o.op = Op.call { callee := .builtin .append, args := #[s, x], argTypes := #[23, 23] }) (g cap : Nat) (l : List (Int × Int)) (he : a.eval s = .slice (some ⟨w.heap.size, 0, none⟩) 0 0)
    (hx : a.eval x = .slice (some ⟨g, 0, none⟩) l.length cap) {B : Nat} (hs : Sps w B (.slice (some ⟨g, 0, none⟩) l.length cap) l) (hn : l.length ≤ 1048576)
    (hK : ∀ v' w', Sps w' w.heap.size v' l → Below w.heap.size w w' → wpList Yapv.prog ops Q rest (a.put o.dst v') w') : wpList Yapv.prog ops Q (o :: rest) a (w.alloc (.cells #[] 31)) := by
  obtain ⟨i, hi, e0, e1, e2⟩ := info_parts Yapv.info31
  have hb : Below w.heap.size w (w.alloc (.cells #[] 31)) := (Below.refl _ _).alloc (Nat.le_refl _) _
  have hown : (w.alloc (.cells #[] 31)).ownsRow w.heap.size 31 2 (.slice (some ⟨w.heap.size, 0, none⟩) 0 0) 0 [] := ⟨rfl, .inr ⟨w.heap.size, 0, #[], rfl, Nat.le_refl _, heap_alloc_new w _, Nat.le_refl _, Nat.zero_le _, rfl, rfl⟩⟩
  refine wpList_append_own _ hg s x 23 hop w.heap.size 31 i _ 2 16 Yapv.underlying23 hi e0 e1 e2 rfl (by decide) _ 0 [] he hown ⟨g, 0, none⟩ l.length cap (flat l) hx (flat_length l) (World.ownsRow.cells (World.ownsRow.alloc hs _) (g := g) rfl) (flat_oneCell _)
    (by unfold maxLen; omega) (by omega) (by simp) ?_
  intro v' w' hown' hgr _
  refine hK v' w' ?_ (hb.trans (below_of_grown hgr (by simp) (fun k hk => (hown.lt k hk).1)))
  unfold Sps
  simpa using hown'

set_option maxHeartbeats 400000 in
theorem clone_any (B B' : Nat) (v : Value) (l : List (Int × Int)) (w : World) (hs : Sps w B v l) (hn : l.length ≤ 1048576) (hB : B' = w.heap.size) :
    Calls Yapv.prog 20 #[v] w fun e w' => ∃ v', e = .returned v' ∧ Sps w' B' v' l ∧ Below B' w w' := by
  subst hB
  have hq : ∀ (w : World) (a : Option Addr) (n c n' c' : Nat), (binOp .eql 23 (.slice a n c) (.slice none n' c')).run Yapv.prog w = .ok (.bool a.isNone) w := fun w a n c n' c' => Lib.run_eql_slice_nil w _ _ a n c n' c' Yapv.underlying23
  rcases hs.2 with ⟨rfl, h0⟩ | ⟨g, cap, cur, rfl, hBg, hgg, hnc, hcm, hcs, htake⟩
  · have hl : l = [] := List.eq_nil_of_length_eq_zero h0
    subst hl
    go_enter Yapv.func20, Yapv.ntmps20
    go_wp2
    go_ret
    exact ⟨_, rfl, World.ownsRow_nil _ _ _ _, Below.refl _ _⟩
  · have hlt : g < w.heap.size := (Array.getElem?_eq_some_iff.1 hgg).1
    go_enter Yapv.func20, Yapv.ntmps20
    go_wp2_with (at_builtin; refine wpList_append_all w rfl _ _ rfl g cap l rfl rfl hs hn ?_)
    intro v' w' h1 h2
    go_wp2
    go_ret
    exact ⟨_, rfl, h1, h2⟩
end Go.Proofs.Ymwhap
