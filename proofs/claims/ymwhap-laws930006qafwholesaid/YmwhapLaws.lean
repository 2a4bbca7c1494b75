/-
  The walk's laws on make, append and copy, at slices of spans (two cells an element), over a list of spans.
-/
import Derived.Test.YmwhapBase
namespace Go.Proofs.Ymwhap
open Go.RowKit

theorem Yapv.info31 : (Yapv.prog.info? 31).map (fun i => (i.zero, i.size, i.bytes)) = some (some (.agg #[.int .i64 0, .int .i64 0]), 2, 16) := by kernel_rfl

theorem below_of_grown {B : Nat} {w w' : World} {row : Option Nat} (hg : w.grownBy w' row) (hB : B ≤ w.heap.size) (hr : ∀ k, row = some k → B ≤ k) : Below B w w' :=
  (Below.refl _ _).grown hg hB hr

/-- A row of n spans that was just made. -/
def Made (w : World) (B : Nat) (v : Value) (n : Nat) : Prop := (∃ a c, v = .slice a n c) ∧ ∃ xs, w.ownsRow B 31 2 v n xs

section
variable (w : World) {ops : Array Oper} {rest : List Oper} {o : Oper} {a : Act} {Q : Exit → Act → World → Prop}

/-- 'make([]Span, 0, n)'. -/
theorem wpList_make_sp (hg : o.guard = none) (l c : Operand) (hop : o.op = Op.makeSlice 23 l c) (B : Nat) (kl kc : IntKind) (C : Int) (n : Nat) (hl : a.eval l = .int kl 0) (hc : a.eval c = .int kc C) (hC : C = (n : Int))
    (hn : n ≤ 1048576) (hB : B ≤ w.heap.size)
    (hK : ∀ v' w', Sps w' B v' [] → Below B w w' → wpList Yapv.prog ops Q rest (a.put o.dst v') w') : wpList Yapv.prog ops Q (o :: rest) a w := by
  obtain ⟨i, hi, h0, h1, h2⟩ := info_parts Yapv.info31
  refine wpList_make_own w hg l c 23 hop B 31 i _ 2 Yapv.underlying23 hi h0 h1 kl kc C n hl hc hC (by rw [h2]; omega) (by unfold maxLen; omega) hB ?_
  intro w' hown hgr
  exact hK _ _ hown (below_of_grown hgr hB (fun k hk => by cases hk))

/-- 'make([]Span, n)'. -/
theorem wpList_make_sps (hg : o.guard = none) (l c : Operand) (hop : o.op = Op.makeSlice 23 l c) (B : Nat) (kl kc : IntKind) (L C : Int) (n : Nat) (hl : a.eval l = .int kl L) (hc : a.eval c = .int kc C) (hL : L = (n : Int)) (hC : C = (n : Int))
    (hn : n ≤ 1048576) (hB : B ≤ w.heap.size)
    (hK : ∀ v' w', Made w' B v' n → Below B w w' → wpList Yapv.prog ops Q rest (a.put o.dst v') w') : wpList Yapv.prog ops Q (o :: rest) a w := by
  obtain ⟨i, hi, h0, h1, h2⟩ := info_parts Yapv.info31
  refine wpList_make_full w hg l c 23 hop B 31 i _ 2 Yapv.underlying23 hi h0 h1 kl kc L C n hl hc hL hC (by rw [h2]; omega) (by unfold maxLen; omega) hB ?_
  intro w' hown hgr
  exact hK _ _ ⟨⟨_, _, rfl⟩, ⟨_, hown⟩⟩ (below_of_grown hgr hB (fun k hk => by cases hk))

/-- 'append(out, p)', p a span in a new block of its own. -/
theorem wpList_append_sp (hg : o.guard = none) (s x : Operand) (hop : o.op = Op.call { callee := .builtin .append, args := #[s, x], argTypes := #[23, 23] }) (B : Nat) (v : Value) (l : List (Int × Int)) (hs : a.eval s = v) (hown : Sps w B v l)
    (g c : Nat) (p q : Int) (hx : a.eval x = .slice (some ⟨g, 0, none⟩) 1 c) (h0 : w.cell? ⟨g, 0, none⟩ = some (.int .i64 p)) (h1 : w.cell? ⟨g, 1, none⟩ = some (.int .i64 q))
    (hn : l.length ≤ 1048576) (hB : B ≤ w.heap.size)
    (hK : ∀ v' w', Sps w' B v' (l ++ [(p, q)]) → Below B w w' → wpList Yapv.prog ops Q rest (a.put o.dst v') w') : wpList Yapv.prog ops Q (o :: rest) a w := by
  obtain ⟨i, hi, e0, e1, e2⟩ := info_parts Yapv.info31
  refine wpList_append_own w hg s x 23 hop B 31 i _ 2 16 Yapv.underlying23 hi e0 e1 e2 rfl (by decide) v l.length (flat l) hs hown ⟨g, 0, none⟩ 1 c (flat [(p, q)]) hx rfl ?_ (flat_oneCell _) (by unfold maxLen; omega) (by omega) hB ?_
  · intro j u hj
    match j, hj with
    | 0, hj => simp [flat] at hj; subst hj; simpa [Addr.add] using h0
    | 1, hj => simp [flat] at hj; subst hj; simpa [Addr.add] using h1
    | j + 2, hj => simp [flat] at hj
  · intro v' w' hown' hgr _
    refine hK v' w' ?_ (below_of_grown hgr hB (fun k hk => (hown.lt k hk).1))
    unfold Sps
    rw [flat_append, List.length_append]
    exact hown'

/-- The same, p's block being the one just laid. -/
theorem wpList_append_new {x y : Int} (hg : o.guard = none) (s xo : Operand) (hop : o.op = Op.call { callee := .builtin .append, args := #[s, xo], argTypes := #[23, 23] }) (B : Nat) (v : Value) (l : List (Int × Int)) (hs : a.eval s = v) (hown : Sps w B v l)
    (p q : Int) (hx : a.eval xo = .slice (some ⟨w.heap.size, 0, none⟩) 1 1) (hp : x = p) (hq : y = q) (hn : l.length ≤ 1048576) (hB : B ≤ w.heap.size)
    (hK : ∀ v' w', Sps w' B v' (l ++ [(p, q)]) → Below B w w' → wpList Yapv.prog ops Q rest (a.put o.dst v') w') : wpList Yapv.prog ops Q (o :: rest) a (w.alloc (.cells #[.int .i64 x, .int .i64 y] 31)) := by
  subst hp hq
  have hb : Below B w (w.alloc (.cells #[.int .i64 x, .int .i64 y] 31)) := (Below.refl _ _).alloc hB _
  refine wpList_append_sp _ hg s xo hop B v l hs (World.ownsRow.alloc hown _) w.heap.size 1 x y hx (by simp) (by simp) hn (by simp; omega) ?_
  intro v' w' h1 h2
  exact hK v' w' h1 (hb.trans h2)

/-- The same, telling besides that no block but the slice's own has turned. -/
theorem wpList_append_keep {x y : Int} (hg : o.guard = none) (s xo : Operand) (hop : o.op = Op.call { callee := .builtin .append, args := #[s, xo], argTypes := #[23, 23] }) (B : Nat) (v : Value) (l : List (Int × Int)) (hs : a.eval s = v) (hown : Sps w B v l)
    (p q : Int) (n0 : Nat) (hx : a.eval xo = .slice (some ⟨n0, 0, none⟩) 1 1) (hn0 : n0 = w.heap.size) (hp : x = p) (hq : y = q) (hn : l.length ≤ 1048576) (hB : B ≤ w.heap.size)
    (hK : ∀ v' w', Sps w' B v' (l ++ [(p, q)]) → Below B w w' → w.grownBy w' v.ownBlock → wpList Yapv.prog ops Q rest (a.put o.dst v') w') : wpList Yapv.prog ops Q (o :: rest) a (w.alloc (.cells #[.int .i64 x, .int .i64 y] 31)) := by
  subst hp hq hn0
  obtain ⟨i, hi, e0, e1, e2⟩ := info_parts Yapv.info31
  have hb : Below B w (w.alloc (.cells #[.int .i64 x, .int .i64 y] 31)) := (Below.refl _ _).alloc hB _
  have hown' : Sps (w.alloc (.cells #[.int .i64 x, .int .i64 y] 31)) B v l := World.ownsRow.alloc hown _
  refine wpList_append_own _ hg s xo 23 hop B 31 i _ 2 16 Yapv.underlying23 hi e0 e1 e2 rfl (by decide) v l.length (flat l) hs hown' ⟨w.heap.size, 0, none⟩ 1 1 (flat [(x, y)]) hx rfl ?_ (flat_oneCell _) (by unfold maxLen; omega) (by omega) (by simp; omega) ?_
  · intro j u hj
    match j, hj with
    | 0, hj => simp [flat] at hj; subst hj; simp [Addr.add]
    | 1, hj => simp [flat] at hj; subst hj; simp [Addr.add]
    | j + 2, hj => simp [flat] at hj
  · intro v' w' hown'' hgr _
    refine hK v' w' ?_ (hb.trans (below_of_grown hgr (by simp; omega) (fun k hk => (hown.lt k hk).1))) ?_
    · unfold Sps
      rw [flat_append, List.length_append]
      exact hown''
    · exact ⟨hgr.os, hgr.tape, hgr.output, by have := hgr.size; simp at this; omega, fun k hk hne => (hgr.block k (by simp; omega) hne).trans (Below.heap_alloc _ _ _ hk)⟩

/-- The same, without that, the number of p's block told apart. -/
theorem wpList_append_at {x y : Int} (hg : o.guard = none) (s xo : Operand) (hop : o.op = Op.call { callee := .builtin .append, args := #[s, xo], argTypes := #[23, 23] }) (B : Nat) (v : Value) (l : List (Int × Int)) (hs : a.eval s = v) (hown : Sps w B v l)
    (p q : Int) (n0 : Nat) (hx : a.eval xo = .slice (some ⟨n0, 0, none⟩) 1 1) (hn0 : n0 = w.heap.size) (hp : x = p) (hq : y = q) (hn : l.length ≤ 1048576) (hB : B ≤ w.heap.size)
    (hK : ∀ v' w', Sps w' B v' (l ++ [(p, q)]) → Below B w w' → wpList Yapv.prog ops Q rest (a.put o.dst v') w') : wpList Yapv.prog ops Q (o :: rest) a (w.alloc (.cells #[.int .i64 x, .int .i64 y] 31)) :=
  wpList_append_keep w hg s xo hop B v l hs hown p q n0 hx hn0 hp hq hn hB fun v' w' h1 h2 _ => hK v' w' h1 h2

/-- What 'copy(dst, src)' does, dst as long as src. -/
theorem run_copy_sp (P : Program) (w : World) (ty : TypeId) (hu : P.underlying 23 = some (.slice 31)) (hi : (P.info? 31).map (·.size) = some 2) (B B' n : Nat) (vd v : Value) (xs : List Value) (l : List (Int × Int))
    (hd : w.ownsRow B 31 2 vd n xs) (hs : Sps w B' v l) (hn : l.length = n) :
    ∃ w', (Builtin.copy_ #[23, 23] ty #[vd, v]).run P w = .ok (goInt n) w' ∧ Sps w' B vd l ∧ Below B w w' := by
  subst hn
  cases hq : P.info? 31 with
  | none => simp [hq] at hi
  | some i =>
  have hsz : i.size = 2 := by simpa [hq] using hi
  have hfl := flat_length l
  rcases hd.2 with ⟨rfl, h0⟩ | ⟨g, cap, cur, rfl, hB, hgg, hnc, hcm, hcs, htake⟩
  · have hl : l = [] := List.eq_nil_of_length_eq_zero h0
    subst hl
    refine ⟨w, ?_, World.ownsRow_nil _ _ _ _, Below.refl _ _⟩
    rcases hs.2 with ⟨rfl, _⟩ | ⟨g, cap, cur, rfl, r⟩
    · simp [Builtin.copy_, run_underlying hu, Builtin.lenOf, Builtin.firstCells, sizeOf, typeInfo, hq]
    · simp [Builtin.copy_, run_underlying hu, Builtin.lenOf, Builtin.firstCells, sizeOf, typeInfo, hq, loadCells, loadCellsFrom]
  · rcases hs.2 with ⟨rfl, h0⟩ | ⟨g', cap', cur', rfl, _, hg', _, _, _, htake'⟩
    · have hl : l = [] := List.eq_nil_of_length_eq_zero h0
      subst hl
      refine ⟨w, ?_, ⟨rfl, .inr ⟨g, cap, cur, rfl, hB, hgg, hnc, hcm, hcs, by simp [flat]⟩⟩, Below.refl _ _⟩
      simp [Builtin.copy_, run_underlying hu, Builtin.lenOf, Builtin.firstCells, sizeOf, typeInfo, hq, storeCells]
    · have hsrc : ∀ j u, (flat l)[j]? = some u → w.cell? ((⟨g', 0, none⟩ : Addr).add j) = some u := World.ownsRow.cells hs (g := g') rfl
      have hld := run_loadCells_list (P := P) w ⟨g', 0, none⟩ (flat l) hsrc
      have hst := run_storeCells_at P g 0 31 (flat l) 0 cur w hgg (by simp; omega) (flat_oneCell l)
      rw [hfl] at hld
      refine ⟨w.setRow g (cur.toList.take (0 + 0) ++ flat l ++ cur.toList.drop (0 + 0 + (flat l).length)).toArray, ?_, ⟨hfl, .inr ⟨g, cap, _, rfl, hB, setRow_heap w g cur _ 31 _ hgg, hnc, hcm, ?_, ?_⟩⟩, ⟨rfl, rfl, rfl, by simp, fun k hk => setRow_other w g k _ (by omega)⟩⟩
      · simp [Builtin.copy_, run_underlying hu, Builtin.lenOf, Builtin.firstCells, sizeOf, typeInfo, hq, hsz, hld, hst]
      · simp [hfl]; omega
      · simp [← hfl]

end

/-- 'copy(dst, src)', dst just made, as long as src: the equation that the walk takes. -/
theorem copy_sp {w : World} {ty : TypeId} {B B' n : Nat} {vd v : Value} {l : List (Int × Int)} (hd : Made w B vd n) (hs : Sps w B' v l) (hn : l.length = n) :
    ∃ w', (Builtin.copy_ #[23, 23] ty #[vd, v]).run Yapv.prog w = .ok (goInt n) w' ∧ Sps w' B vd l ∧ Below B w w' := by
  obtain ⟨_, xs, hod⟩ := hd
  exact run_copy_sp Yapv.prog w ty Yapv.underlying23 (by kernel_rfl) B B' n vd v xs l hod hs hn

set_option maxHeartbeats 400000 in
theorem copyac_any (B B' : Nat) (v : Value) (l : List (Int × Int)) (w : World) (hs : Sps w B v l) (hn : l.length ≤ 1048576) (hB : B' = w.heap.size) :
    Calls Yapv.prog 26 #[v] w fun e w' => ∃ v', e = .returned v' ∧ Sps w' B' v' l ∧ Below B' w w' := by
  subst hB
  obtain ⟨a, c, rfl⟩ := hs.slice
  go_enter Yapv.func26, Yapv.ntmps26
  go_wp2_with (at_make; refine wpList_make_sps _ rfl _ _ rfl w.heap.size .i64 .i64 _ _ l.length rfl rfl rfl rfl hn (Nat.le_refl _) ?_)
  intro v' w1 hm hb1
  obtain ⟨a1, c1, rfl⟩ := hm.1
  obtain ⟨w2, hrun, hs2, hb2⟩ := copy_sp (ty := 3) hm (hs.below hb1) rfl
  go_wp2
  go_ret
  exact ⟨_, rfl, hs2, hb1.trans hb2⟩

set_option maxHeartbeats 400000 in
theorem copyab_any (B B' : Nat) (v : Value) (l : List (Int × Int)) (w : World) (hs : Sps w B v l) (hn : l.length ≤ 1048576) (hB : B' = w.heap.size) :
    Calls Yapv.prog 15 #[v] w fun e w' => ∃ v', e = .returned v' ∧ Sps w' B' v' l ∧ Below B' w w' := by
  subst hB
  obtain ⟨a, c, rfl⟩ := hs.slice
  go_enter Yapv.func15, Yapv.ntmps15
  go_wp2_with (at_make; refine wpList_make_sps _ rfl _ _ rfl w.heap.size .i64 .i64 _ _ l.length rfl rfl rfl rfl hn (Nat.le_refl _) ?_)
  intro v' w1 hm hb1
  obtain ⟨a1, c1, rfl⟩ := hm.1
  obtain ⟨w2, hrun, hs2, hb2⟩ := copy_sp (ty := 3) hm (hs.below hb1) rfl
  go_wp2
  go_ret
  exact ⟨_, rfl, hs2, hb1.trans hb2⟩
end Go.Proofs.Ymwhap
