/-
  A slice of int64 that the call has built: made, appended to, sorted, its runs struck.
-/
import Derived.Test.YmwhapNz
import Derived.Test.YmwhapShelf
import Derived.Sort.OwnSortedInts
namespace Go.Proofs.Ymwhap
open Go.RowKit Go.Sort

theorem Yapv.info2 : (Yapv.prog.info? 2).map (fun i => (i.zero, i.size, i.bytes)) = some (some (.int .i64 0), 1, 8) := by kernel_rfl

/-- The slice value v, among the blocks from B on, owns the numbers E. -/
def Ins (w : World) (B : Nat) (v : Value) (E : List Int) : Prop := ∃ g cap cur, v = .slice (some ⟨g, 0, none⟩) E.length cap ∧ B ≤ g ∧ w.heap[g]? = some (.cells cur 2 (0, 0)) ∧ E.length ≤ cap ∧ cap ≤ maxLen ∧ cur.size = cap * 1 ∧ cur.toList.take (E.length * 1) = E.map (Value.int .i64)

theorem Ins.owns {w : World} {B : Nat} {v : Value} {E : List Int} (h : Ins w B v E) : w.ownsRow B 2 1 v E.length (E.map (Value.int .i64)) := ⟨by simp, .inr h⟩
theorem Ins.of {w : World} {B : Nat} {v : Value} {E : List Int} (h : w.ownsRow B 2 1 v E.length (E.map (Value.int .i64))) (hv : v ≠ .slice none 0 0) : Ins w B v E := by
  rcases h.2 with ⟨e, _⟩ | h
  · exact absurd e hv
  · exact h
theorem Ins.ne {w : World} {B : Nat} {v : Value} {E : List Int} (h : Ins w B v E) : v ≠ .slice none 0 0 := by
  obtain ⟨g, cap, cur, rfl, _⟩ := h
  intro e
  cases e
theorem Ins.slice {w : World} {B : Nat} {v : Value} {E : List Int} (h : Ins w B v E) : ∃ g c, v = .slice (some ⟨g, 0, none⟩) E.length c := by
  obtain ⟨g, cap, cur, rfl, _⟩ := h
  exact ⟨g, cap, rfl⟩
theorem Ins.cell {w : World} {B n c g : Nat} {E : List Int} (h : Ins w B (.slice (some ⟨g, 0, none⟩) n c) E) (k : Nat) (hk : k < E.length) : w.cell? ⟨g, k, none⟩ = some (.int .i64 (zAt E k)) := by
  have ho := h.owns
  obtain ⟨g', cap, cur, e, _⟩ := h
  cases e
  rw [ho.cellAt k (by omega)]
  simp [zAt, List.getD, hk]
theorem Ins.below {w w' : World} {B : Nat} {v : Value} {E : List Int} (h : Ins w B v E) (hb : Below w.heap.size w w') : Ins w' B v E := by
  obtain ⟨g, cap, cur, rfl, hB, hg, r⟩ := h
  exact ⟨g, cap, cur, rfl, hB, by rw [hb.block g (Array.getElem?_eq_some_iff.1 hg).1]; exact hg, r⟩
theorem Ins.lt {w : World} {B g n c : Nat} {E : List Int} (h : Ins w B (.slice (some ⟨g, 0, none⟩) n c) E) : B ≤ g ∧ g < w.heap.size := by
  obtain ⟨g', cap, cur, e, hB, hg, r⟩ := h
  cases e
  exact ⟨hB, (Array.getElem?_eq_some_iff.1 hg).1⟩

section
variable (w : World) {ops : Array Oper} {rest : List Oper} {o : Oper} {a : Act} {Q : Exit → Act → World → Prop}

/-- 'make([]int64, 0, n)'. -/
theorem wpList_make_in (hg : o.guard = none) (l c : Operand) (hop : o.op = Op.makeSlice 62 l c) (B : Nat) (kl kc : IntKind) (C : Int) (n : Nat) (hl : a.eval l = .int kl 0) (hc : a.eval c = .int kc C) (hC : C = (n : Int))
    (hn : n ≤ 1048576) (hB : B ≤ w.heap.size)
    (hK : ∀ v' w', Ins w' B v' [] → Below B w w' → wpList Yapv.prog ops Q rest (a.put o.dst v') w') : wpList Yapv.prog ops Q (o :: rest) a w := by
  obtain ⟨i, hi, h0, h1, h2⟩ := info_parts Yapv.info2
  refine wpList_make_own w hg l c 62 hop B 2 i _ 1 Yapv.underlying62 hi h0 h1 kl kc C n hl hc hC (by rw [h2]; omega) (by unfold maxLen; omega) hB ?_
  intro w' hown hgr
  exact hK _ _ (Ins.of hown (by intro e; cases e)) (below_of_grown hgr hB (fun k hk => by cases hk))

/-- 'append(es, x, y)'. -/
theorem wpList_append_in {x y : Int} (hg : o.guard = none) (s xo : Operand) (hop : o.op = Op.call { callee := .builtin .append, args := #[s, xo], argTypes := #[62, 62] }) (B : Nat) (v : Value) (E : List Int) (hs : a.eval s = v) (hown : Ins w B v E)
    (n0 : Nat) (hx : a.eval xo = .slice (some ⟨n0, 0, none⟩) 2 2) (hn0 : n0 = w.heap.size) (hn : E.length ≤ 1048576) (hB : B ≤ w.heap.size)
    (hK : ∀ v' w', Ins w' B v' (E ++ [x, y]) → Below B w w' → wpList Yapv.prog ops Q rest (a.put o.dst v') w') : wpList Yapv.prog ops Q (o :: rest) a (w.alloc (.cells #[.int .i64 x, .int .i64 y] 2)) := by
  subst hn0
  obtain ⟨i, hi, e0, e1, e2⟩ := info_parts Yapv.info2
  have hb : Below B w (w.alloc (.cells #[.int .i64 x, .int .i64 y] 2)) := (Below.refl _ _).alloc hB _
  have hown' : (w.alloc (.cells #[.int .i64 x, .int .i64 y] 2)).ownsRow B 2 1 v E.length (E.map (Value.int .i64)) := World.ownsRow.alloc hown.owns _
  refine wpList_append_own _ hg s xo 62 hop B 2 i _ 1 8 Yapv.underlying62 hi e0 e1 e2 rfl (by decide) v E.length (E.map (Value.int .i64)) hs hown' ⟨w.heap.size, 0, none⟩ 2 2 [.int .i64 x, .int .i64 y] hx rfl ?_ ?_ (by unfold maxLen; omega) (by omega) (by simp; omega) ?_
  · intro j u hj
    match j, hj with
    | 0, hj => simp at hj; subst hj; simp [Addr.add]
    | 1, hj => simp at hj; subst hj; simp [Addr.add]
    | j + 2, hj => simp at hj
  · intro u hu
    simp at hu
    rcases hu with rfl | rfl <;> rfl
  · intro v' w' hown'' hgr hnil
    refine hK v' w' (Ins.of ?_ ?_) (hb.trans (below_of_grown hgr (by simp; omega) (fun k hk => (hown.owns.lt k hk).1)))
    · simpa using hown''
    · intro e
      exact hown.ne (hnil.1 e).1
end

theorem compact_len (zs : List Int) : (Lib.compact zs).length ≤ zs.length := by
  unfold Lib.compact Lib.compactUpTo
  rw [List.length_map]
  exact Nat.le_trans (List.length_filter_le _ _) (by simp)

/-- slices.Sort. -/
theorem sort_any (B : Nat) (v : Value) (zs : List Int) (w : World) (hs : Ins w B v zs) (hn : zs.length ≤ 1048576) :
    Calls Yapv.prog 34 #[v] w fun e w' => e = .returned (.tuple #[]) ∧ Ins w' B v (zs.mergeSort fun x y => decide (x ≤ y)) ∧ Below B w w' := by
  obtain ⟨g, cap, cur, rfl, hB, hg, h1, h2, h3, h4⟩ := hs
  have hlt := (Array.getElem?_eq_some_iff.1 hg).1
  refine (Yapv.slices_Sort_int g 0 cap zs w (holds_of_blockI hg (by simpa using h4)) hlt (by omega)).mono ?_
  rintro e w' ⟨rfl, n, os, rfl⟩
  have hl : (zs.mergeSort fun x y => decide (x ≤ y)).length = zs.length := List.length_mergeSort _
  refine ⟨rfl, Ins.of ?_ (by intro e; cases e), below_of_grown (grownBy_sortedI _) (by omega) (fun k hk => by cases hk; exact hB)⟩
  have := ownsRow_sortedI (w := w) (n := n) (os := os) (e := 2) hl hB hg h1 h2 h3
  rw [hl]
  exact this

/-- slices.Compact. -/
theorem compact_any (B : Nat) (v : Value) (zs : List Int) (w : World) (hs : Ins w B v zs) (hn : zs.length ≤ 1048576) :
    Calls Yapv.prog 35 #[v] w fun e w' => ∃ v', e = .returned v' ∧ Ins w' B v' (Lib.compact zs) ∧ Below B w w' := by
  obtain ⟨g, cap, cur, rfl, hB, hg, h1, h2, h3, h4⟩ := hs
  have hlt := (Array.getElem?_eq_some_iff.1 hg).1
  have hc := compact_len zs
  refine (Yapv.slices_Compact_int g 0 cap zs w (holds_of_blockI hg (by simpa using h4)) (by omega) h1).mono ?_
  rintro e w' ⟨rfl, q, rfl⟩
  have hgr : ∀ W : World, grow W #[] = W := fun W => by simp [grow]
  rw [← hgr (putRow _ _ _ _ _)]
  refine ⟨_, rfl, ⟨g, cap, _, rfl, hB, heap_sortedI _ hg, by omega, h2, by simp [putCells, h3], ?_⟩, below_of_grown (grownBy_sortedI _) (by omega) (fun k hk => by cases hk; exact hB)⟩
  have hll : (Lib.compact zs ++ List.replicate (zs.length - (Lib.compact zs).length) 0).length = zs.length := by simp; omega
  have ht := take_putCellsI cur (Lib.compact zs ++ List.replicate (zs.length - (Lib.compact zs).length) 0) (by omega)
  have := congrArg (List.take (Lib.compact zs).length) ht
  rw [List.take_take, Nat.min_eq_left (by omega)] at this
  rw [Nat.mul_one, this]
  simp
end Go.Proofs.Ymwhap
