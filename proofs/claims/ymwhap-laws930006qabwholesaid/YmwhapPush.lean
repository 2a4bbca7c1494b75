/-
  push and the mapping of a span, walked.
-/
import Derived.Test.YmwhapUniPlain
import Derived.Test.YmwhapAdd
import Derived.Deep.QuietTactic
import Derived.BigQuiet
import Derived.WalkLawsBesides
namespace Go.Proofs.Ymwhap
open Go.RowKit

/-- A span's cells, written anew. -/
theorem flat_set (l : List (Int × Int)) : ∀ (k : Nat) (x y : Int), k < l.length → ((flat l).set (k * 2) (.int .i64 x)).set (k * 2 + 1) (.int .i64 y) = flat (l.set k (x, y)) := by
  induction l with
  | nil => intro k x y h; simp at h
  | cons p r ih =>
    intro k x y h
    cases k with
    | zero => simp [flat]
    | succ k =>
      have e : (k + 1) * 2 = k * 2 + 1 + 1 := by omega
      have := ih k x y (by simpa using h)
      rw [e]
      simp [flat, this]
theorem flat_hi (l : List (Int × Int)) (k : Nat) (y : Int) (h : k < l.length) : (flat l).set (k * 2 + 1) (.int .i64 y) = flat (l.set k (lo l k, y)) := by
  rw [← flat_set l k (lo l k) y h]
  congr 1
  have := (flat_get l k h).1
  have hk : k * 2 < (flat l).length := by rw [flat_length]; omega
  rw [List.getElem?_eq_getElem hk] at this
  rw [← Option.some.inj this, List.set_getElem_self]

/-- Behind a store of an upper bound. -/
theorem Sps.setHi {w : World} {B g n c : Nat} {l : List (Int × Int)} (h : Sps w B (.slice (some ⟨g, 0, none⟩) n c) l) (hn : l.length = n) (k : Nat) (hk : k < l.length) (y : Int) :
    Sps (w.setCell ⟨g, k * 2 + 1, none⟩ (.int .i64 y)) B (.slice (some ⟨g, 0, none⟩) n c) (l.set k (lo l k, y)) := by
  subst hn
  have := (World.ownsRow.stored h (k * 2 + 1) (.int .i64 y)).1
  unfold Sps
  rw [← flat_hi l k y hk, List.length_set]
  exact this
theorem Sps.notFrozen {w : World} {B g n c : Nat} {l : List (Int × Int)} (h : Sps w B (.slice (some ⟨g, 0, none⟩) n c) l) (hn : l.length = n) (j : Nat) : w.frozen? ⟨g, j, none⟩ = false := by
  subst hn
  exact World.ownsRow.frozenAt h j

set_option maxHeartbeats 1000000 in
theorem push_any (B : Nat) (v : Value) (l : List (Int × Int)) (x y : Int) (w : World) (hs : Sps w B v l) (hB : B ≤ w.heap.size) (hn : l.length ≤ 1048000) :
    Calls Yapv.prog 33 #[v, .agg #[.int .i64 x, .int .i64 y]] w fun e w' => ∃ v', e = .returned v' ∧ Sps w' B v' (psh l x y) ∧ Below B w w' := by
  obtain ⟨a, c, rfl⟩ := hs.slice
  by_cases h0 : l.length = 0
  · have HR : Hid (psh l x y = l ++ [(x, y)]) := psh_app (.inl h0)
    have hd : ((l.length : Int) == 0) = true := by simp [h0]
    go_enter Yapv.func33, Yapv.ntmps33
    go_wp2
    go_quiet (fail)
    go_wp2_with (at_builtin; refine wpList_append_at _ rfl _ _ rfl B _ l rfl (World.ownsRow.alloc hs _) x y _ rfl (by simp [World.drewN]) rfl rfl (by omega) (by simp [World.drewN]; omega) ?_)
    intro v' w' ho' hb'
    go_wp2
    go_ret
    exact ⟨_, rfl, by rw [HR.out]; exact ho', (below_drewN ((Below.refl _ _).alloc hB _) _).trans hb'⟩
  · obtain ⟨g, rfl, hBg, hg, c0, c1⟩ := hs.cells (l.length - 1) (by omega)
    have hd : ((l.length : Int) == 0) = false := beq_eq_false_iff_ne.2 (by omega)
    have hp : (0 : Int) < (l.length : Int) := by omega
    have hfz := hs.notFrozen rfl ((l.length - 1) * 2 + 1)
    by_cases h1 : hi l (l.length - 1) < x
    · have HR : Hid (psh l x y = l ++ [(x, y)]) := psh_app (.inr h1)
      go_enter Yapv.func33, Yapv.ntmps33
      go_wp2
      go_quiet (fail)
      go_wp2_with (at_builtin; refine wpList_append_at _ rfl _ _ rfl B _ l rfl (World.ownsRow.alloc hs _) x y _ rfl (by simp [World.drewN]) rfl rfl (by omega) (by simp [World.drewN]; omega) ?_)
      intro v' w' ho' hb'
      go_wp2
      go_ret
      exact ⟨_, rfl, by rw [HR.out]; exact ho', (below_drewN ((Below.refl _ _).alloc hB _) _).trans hb'⟩
    · by_cases h2 : hi l (l.length - 1) < y
      · have HR : Hid (psh l x y = l.set (l.length - 1) (lo l (l.length - 1), y)) := psh_set h0 h1 h2
        go_enter Yapv.func33, Yapv.ntmps33
        go_wp2
        go_quiet (fail)
        go_wp2
        go_quiet (fail)
        go_wp2
        go_ret
        refine ⟨_, rfl, ?_, ?_⟩
        · rw [HR.out]
          exact Sps.setHi (World.ownsRow.alloc hs _) rfl _ (by omega) y
        · exact (((Below.refl _ _).alloc hB _).setCell (p := ⟨g, _, none⟩) hBg _).trans ⟨rfl, rfl, rfl, Nat.le_refl _, fun _ _ => rfl⟩
      · have HR : Hid (psh l x y = l) := psh_same h0 h1 h2
        go_enter Yapv.func33, Yapv.ntmps33
        go_wp2
        go_quiet (fail)
        go_wp2
        go_quiet (fail)
        go_wp2
        go_ret
        exact ⟨_, rfl, by rw [HR.out]; exact World.ownsRow.alloc hs _, below_drewN (below_drewN ((Below.refl _ _).alloc hB _) _) _⟩
end Go.Proofs.Ymwhap
