/-
  A variable of type Set that a law fills step by step.
-/
import Derived.Test.YmwhapSteps
import Derived.Test.YmwhapRem
import Derived.OpenShut
namespace Go.Proofs.Ymwhap
open Go.RowKit

/-- The variable s and what it owns. -/
def Var (w wr : World) (l : List (Int × Int)) : Prop := ∃ v, wr.cell? ⟨w.heap.size, 0, none⟩ = some v ∧ wr.frozen? ⟨w.heap.size, 0, none⟩ = false ∧ Sps wr (w.heap.size + 1) v l ∧ Below w.heap.size w wr ∧ w.heap.size + 1 ≤ wr.heap.size

/-- Behind a call of Add or Remove, and the store of what it handed back. -/
theorem var_step {w wr w2 : World} {o : Obj} {v v' : Value} {l' : List (Int × Int)} (hb : Below w.heap.size w wr) (hz : w.heap.size + 1 ≤ wr.heap.size) (hv : wr.cell? ⟨w.heap.size, 0, none⟩ = some v) (hf : wr.frozen? ⟨w.heap.size, 0, none⟩ = false)
    (hs2 : Sps w2 (w.heap.size + 1) v' l') (hb2 : Below (wr.heap.size + 1) (wr.alloc o) w2) :
    w2.cell? ⟨w.heap.size, 0, none⟩ = some v ∧ w2.frozen? ⟨w.heap.size, 0, none⟩ = false ∧ Var w (w2.setCell ⟨w.heap.size, 0, none⟩ v') l' := by
  have hw := box_below hb2
  have e1 : w2.cell? ⟨w.heap.size, 0, none⟩ = some v := (hw.cell (p := ⟨w.heap.size, 0, none⟩) hz).trans hv
  have e2 : w2.frozen? ⟨w.heap.size, 0, none⟩ = false := (hw.frozen (p := ⟨w.heap.size, 0, none⟩) hz).trans hf
  refine ⟨e1, e2, v', World.cell?_setCell_same _ _ _ e1, (World.frozen?_setCell _ _ _ _).trans e2, ownsRow_setCell_below hs2 (Nat.lt_succ_self _) _, ?_, ?_⟩
  · exact (hb.trans (hw.mono (by omega))).setCell (Nat.le_refl _) _
  · have := hw.size
    simp
    omega
end Go.Proofs.Ymwhap
