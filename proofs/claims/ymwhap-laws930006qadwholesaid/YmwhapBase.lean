/-
  The plain words that all walks of this seat share: a list of spans, its cells, 'this slice value owns these spans'.
-/
import Derived.Test.YmwhapProg
import Derived.WalkKit
import Derived.WalkSpells
namespace Go.Proofs.Ymwhap
open Go.RowKit

/-- The cells of a list of spans. -/
def flat : List (Int × Int) → List Value
  | [] => []
  | p :: r => .int .i64 p.1 :: .int .i64 p.2 :: flat r
/-- Lower and upper bound of the k-th span. -/
def lo (l : List (Int × Int)) (k : Nat) : Int := (l.getD k (0, 0)).1
def hi (l : List (Int × Int)) (k : Nat) : Int := (l.getD k (0, 0)).2

theorem flat_length (l : List (Int × Int)) : (flat l).length = l.length * 2 := by
  induction l with
  | nil => rfl
  | cons p r ih => simp [flat, ih]; omega
theorem flat_append (l m : List (Int × Int)) : flat (l ++ m) = flat l ++ flat m := by
  induction l with
  | nil => rfl
  | cons p r ih => simp [flat, ih]
theorem flat_get (l : List (Int × Int)) : ∀ k, k < l.length → (flat l)[k * 2]? = some (.int .i64 (lo l k)) ∧ (flat l)[k * 2 + 1]? = some (.int .i64 (hi l k)) := by
  induction l with
  | nil => intro k h; simp at h
  | cons p r ih =>
    intro k h
    cases k with
    | zero => simp [flat, lo, hi]
    | succ j =>
      have := ih j (by simpa using h)
      simp only [lo, hi, List.getD_cons_succ] at this ⊢
      have e : (j + 1) * 2 = j * 2 + 1 + 1 := by omega
      rw [e]
      simpa [flat] using this
theorem flat_oneCell (l : List (Int × Int)) : ∀ u ∈ flat l, u.oneCell' = true := by
  induction l with
  | nil => intro u h; simp [flat] at h
  | cons p r ih =>
    intro u h
    simp only [flat, List.mem_cons] at h
    rcases h with rfl | rfl | h
    · rfl
    · rfl
    · exact ih u h

/-- The slice value v, among the blocks from B on, owns the spans l. -/
def Sps (w : World) (B : Nat) (v : Value) (l : List (Int × Int)) : Prop := w.ownsRow B 31 2 v l.length (flat l)

/-- What a reader wants of it: the value's shape .. -/
theorem Sps.slice {w : World} {B : Nat} {v : Value} {l : List (Int × Int)} (h : Sps w B v l) : ∃ a c, v = .slice a l.length c := by
  obtain ⟨h1, h2⟩ := h
  rcases h2 with ⟨rfl, hn⟩ | ⟨g, cap, cur, rfl, r⟩
  · exact ⟨none, 0, by rw [hn]⟩
  · exact ⟨some ⟨g, 0, none⟩, cap, rfl⟩
/-- .. and its cells. -/
theorem Sps.cells {w : World} {B n c : Nat} {a : Option Addr} {l : List (Int × Int)} (h : Sps w B (.slice a n c) l) (k : Nat) (hk : k < l.length) :
    ∃ g, a = some ⟨g, 0, none⟩ ∧ B ≤ g ∧ g < w.heap.size ∧ w.cell? ⟨g, k * 2, none⟩ = some (.int .i64 (lo l k)) ∧ w.cell? ⟨g, k * 2 + 1, none⟩ = some (.int .i64 (hi l k)) := by
  obtain ⟨h1, h2⟩ := h
  rcases h2 with ⟨_, hn⟩ | ⟨g, cap, cur, he, hB, hg, r⟩
  · omega
  · simp only [Value.slice.injEq] at he
    obtain ⟨rfl, rfl, rfl⟩ := he
    refine ⟨g, rfl, hB, (Array.getElem?_eq_some_iff.1 hg).1, ?_⟩
    have h' : w.ownsRow B 31 2 (.slice (some ⟨g, 0, none⟩) l.length c) l.length (flat l) := ⟨h1, .inr ⟨g, c, cur, rfl, hB, hg, r⟩⟩
    rw [h'.cellAt (k * 2) (by omega), h'.cellAt (k * 2 + 1) (by omega)]
    exact flat_get l k hk

/-- An owned list stays owned where the old memory has not turned. -/
theorem Sps.below {w w' : World} {B : Nat} {v : Value} {l : List (Int × Int)} (h : Sps w B v l) (hb : Below w.heap.size w w') : Sps w' B v l := by
  obtain ⟨h1, h2⟩ := h
  refine ⟨h1, ?_⟩
  rcases h2 with h2 | ⟨g, cap, cur, rfl, hB, hg, r⟩
  · exact .inl h2
  · exact .inr ⟨g, cap, cur, rfl, hB, by rw [hb.block g (Array.getElem?_eq_some_iff.1 hg).1]; exact hg, r⟩

/-- Old cells and marks behind a contract that ends in 'Below'. -/
theorem bcell {B : Nat} {W w1 : World} (hb : Below B W w1) : (∀ b o, b < B → w1.cell? ⟨b, o, none⟩ = W.cell? ⟨b, o, none⟩) ∧ (∀ b o, b < B → w1.frozen? ⟨b, o, none⟩ = W.frozen? ⟨b, o, none⟩) :=
  ⟨fun b o h => hb.cell (p := ⟨b, o, none⟩) h, fun b o h => hb.frozen (p := ⟨b, o, none⟩) h⟩

/-- A receiver that was boxed: nothing below it has turned; the box still holds it. -/
theorem box_below {w wr : World} {o : Obj} (hb : Below (w.heap.size + 1) (w.alloc o) wr) : Below w.heap.size w wr :=
  ((Below.refl _ _).alloc (Nat.le_refl _) o).trans (hb.mono (Nat.le_succ _))
theorem box_cell {w wr : World} {v : Value} {t : TypeId} (hb : Below (w.heap.size + 1) (w.alloc (.cells #[v] t)) wr) : wr.cell? ⟨w.heap.size, 0, none⟩ = some v :=
  (hb.cell (p := ⟨w.heap.size, 0, none⟩) (Nat.lt_succ_self _)).trans (by simp)
theorem box_size {w wr : World} {o : Obj} (hb : Below (w.heap.size + 1) (w.alloc o) wr) : w.heap.size + 1 ≤ wr.heap.size := by
  have := hb.size
  simpa using this

theorem ret_int {k : IntKind} {a b : Int} (h : a = b) : Ending.returned (.int k a) = .returned (.int k b) := by rw [h]

end Go.Proofs.Ymwhap
