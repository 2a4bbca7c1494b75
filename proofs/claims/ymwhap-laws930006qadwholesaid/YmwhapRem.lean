/-
  (Set).Remove, walked.
-/
import Derived.Test.YmwhapRemPlain
import Derived.Test.YmwhapAdd
namespace Go.Proofs.Ymwhap
open Go.RowKit

/-- A block laid behind all that the slice owns is kept by an append to it. -/
theorem keep_cell {w w' : World} {B : Nat} {v : Value} {l : List (Int × Int)} (hs : Sps w B v l) {W : World} (hg : W.grownBy w' v.ownBlock) {b o : Nat} {u : Value} (hb : w.heap.size ≤ b) (h : W.cell? ⟨b, o, none⟩ = some u) : w'.cell? ⟨b, o, none⟩ = some u :=
  hg.cell h (fun e => by have := (World.ownsRow.lt hs b e.symm).2; omega)

set_option maxHeartbeats 1000000 in
set_option maxRecDepth 100000 in
theorem rem_any (B : Nat) (v : Value) (l : List (Int × Int)) (a b : Int) (w : World) (hs : Sps w B v l) (hB : B ≤ w.heap.size) (hn : l.length ≤ 500000) :
    Calls Yapv.prog 10 #[.agg #[v], .int .i64 a, .int .i64 b] w fun e w' => ∃ v', e = .returned (.agg #[v']) ∧ Sps w' B v' (remL l a b) ∧ Below w.heap.size w w' := by
  obtain ⟨av, cv, rfl⟩ := hs.slice
  by_cases hab : b ≤ a
  · go_enter Yapv.func10, Yapv.ntmps10
    go_wp2
    refine bodyPost_ret (v := .agg #[.slice av l.length cv]) (by simp [results, Yapv.results10, go_sem]) rfl ⟨_, rfl, ?_, ?_⟩
    · unfold remL
      rw [if_pos hab]
      exact World.ownsRow.alloc (World.ownsRow.alloc hs _) _
    · exact ((Below.refl _ _).alloc (Nat.le_refl _) _).alloc (by simp) _
  · obtain ⟨R, hR⟩ : ∃ R, R = remL l a b := ⟨_, rfl⟩
    have hRl := remL_length l a b
    rw [← hR] at hRl ⊢
    have HR : Hid ([] ++ remN a b (l.drop 0) = R) := by rw [hR]; unfold remL; rw [if_neg hab]; rfl
    clear hR
    go_enter Yapv.func10, Yapv.ntmps10
    go_wp2_with (at_make; refine wpList_make_sp _ rfl _ _ rfl (w.heap.size + 2) .i64 .i64 _ (l.length + 1) rfl rfl (by omega) (by omega) (by simp) ?_)
    intro v1 w1 ho1 hb1
    go_wp2
    go_loopg [7, 8] (l.length) (fun k v i wr => ∃ (j : Nat) (out : List (Int × Int)), j + k = l.length ∧ i = .int .i64 j ∧ Sps wr (w.heap.size + 2) v out ∧ Hid (out ++ remN a b (l.drop j) = R) ∧ Below (w.heap.size + 2) ((w.alloc (Obj.cells #[Value.slice av l.length cv] 25)).alloc (Obj.cells #[Value.slice none 0 0] 25)) wr)
    case atStart => exact ⟨0, [], by omega, rfl, ho1, HR, hb1⟩
    case round =>
      clear ho1 hb1 HR
      obtain ⟨j, out, hj, rfl, ho, HE, hb⟩ := hrel
      obtain ⟨hbox, hres, hfz⟩ := two_cells hb
      have hol := len_le HE.out
      have hsz := two_size hb
      by_cases hlt : j < l.length
      · have HE1 : Hid _ := rem_step hlt HE.out
        have hol1 := len_le HE1.out
        obtain ⟨g, rfl, hBg, hg, c0, c1⟩ := (hs.below (two_below hb)).cells j hlt
        have hj' : Hid (j + gk = l.length) := hj
        clear hj HE
        go_upto_if 36 with fail
        go_cut [7] (fun v wx => Sps wx (w.heap.size + 2) v (out ++ remA a (lo l j) (hi l j)) ∧ Below (w.heap.size + 2) ((w.alloc (Obj.cells #[Value.slice (some ⟨g, 0, none⟩) l.length cv] 25)).alloc (Obj.cells #[Value.slice none 0 0] 25)) wx ∧ wr.heap.size < wx.heap.size ∧
            wx.cell? ⟨wr.heap.size, 0, none⟩ = some (.int .i64 (lo l j)) ∧ wx.cell? ⟨wr.heap.size, 1, none⟩ = some (.int .i64 (hi l j)))
        case first =>
          have hbP : ∀ o, Below (w.heap.size + 2) ((w.alloc (Obj.cells #[Value.slice (some ⟨g, 0, none⟩) l.length cv] 25)).alloc (Obj.cells #[Value.slice none 0 0] 25)) (wr.alloc o) := fun o => hb.alloc hsz o
          by_cases hx : lo l j < a
          · by_cases hy : a < hi l j
            · go_wp2_with (at_builtin; refine wpList_append_keep _ rfl _ _ rfl (w.heap.size + 2) _ _ rfl (World.ownsRow.alloc (World.ownsRow.alloc ho _) _) (lo l j) a _ rfl (by simp) rfl rfl (by omega) (by simp; omega) ?_)
              intro v' w' ho' hb' hgr
              go_wp2
              go_meet
              refine ⟨by rw [remA_cut hx hy]; exact ho', ((hbP _).alloc (by simp; omega) _).trans hb', ?_, ?_, ?_⟩
              · have := hgr.size; simp at this; omega
              · exact keep_cell ho hgr (Nat.le_refl _) (by simp [go_sem])
              · exact keep_cell ho hgr (Nat.le_refl _) (by simp [go_sem])
            · go_wp2_with (at_builtin; refine wpList_append_keep _ rfl _ _ rfl (w.heap.size + 2) _ _ rfl (World.ownsRow.alloc (World.ownsRow.alloc ho _) _) (lo l j) (hi l j) _ rfl (by simp) rfl rfl (by omega) (by simp; omega) ?_)
              intro v' w' ho' hb' hgr
              go_wp2
              go_meet
              refine ⟨by rw [remA_all hx (by omega)]; exact ho', ((hbP _).alloc (by simp; omega) _).trans hb', ?_, ?_, ?_⟩
              · have := hgr.size; simp at this; omega
              · exact keep_cell ho hgr (Nat.le_refl _) (by simp [go_sem])
              · exact keep_cell ho hgr (Nat.le_refl _) (by simp [go_sem])
          · go_wp2
            go_meet
            exact ⟨by rw [remA_no (by omega), List.append_nil]; exact World.ownsRow.alloc ho _, hbP _, by simp, by simp [go_sem], by simp [go_sem]⟩
        case rest =>
        obtain ⟨ho2, hb2, hsz2, d0, d1⟩ := hcut
        have hj2 := hj'.out
        clear c0 c1 ho hb hbox
        have hbx := (two_cells hb2).1
        by_cases hx : b < hi l j
        · by_cases hy : lo l j < b
          · go_wp2_with (at_builtin; refine wpList_append_at _ rfl _ _ rfl (w.heap.size + 2) _ _ rfl (World.ownsRow.alloc ho2 _) b (hi l j) _ rfl (by simp) rfl rfl (by omega) (by simp; omega) ?_)
            intro v' w' ho' hb'
            go_wp2
            go_roundg (gk - 1)
            case rel => exact ⟨j + 1, _, by omega, by go_num, ho', by show _ = _; rw [← HE1.out, remB_cut hx hy]; simp only [List.append_assoc], (hb2.alloc (by omega) _).trans hb'⟩
            case measure => omega
          · go_wp2_with (at_builtin; refine wpList_append_at _ rfl _ _ rfl (w.heap.size + 2) _ _ rfl (World.ownsRow.alloc ho2 _) (lo l j) (hi l j) _ rfl (by simp) rfl rfl (by omega) (by simp; omega) ?_)
            intro v' w' ho' hb'
            go_wp2
            go_roundg (gk - 1)
            case rel => exact ⟨j + 1, _, by omega, by go_num, ho', by show _ = _; rw [← HE1.out, remB_all hx (by omega)]; simp only [List.append_assoc], (hb2.alloc (by omega) _).trans hb'⟩
            case measure => omega
        · go_wp2
          go_roundg (gk - 1)
          case rel => exact ⟨j + 1, _, by omega, by go_num, ho2, by have := HE1.out; rw [remB_no (by omega), List.nil_append] at this; exact this, hb2⟩
          case measure => omega
      · have eR := rem_end hlt HE.out
        subst eR
        obtain ⟨ao, co, rfl⟩ := ho.slice
        go_wp2
        refine bodyPost_ret (v := .agg #[.slice ao out.length co]) (by simp [results, Yapv.results10, go_sem, World.cell?_setCell_same _ _ (Value.slice ao out.length co) hres]) rfl ⟨_, rfl, ?_, ?_⟩
        · exact Sps.base (ownsRow_setCell_below ho (by simp) _) (by omega)
        · exact (two_below hb).setCell (by simp) _
end Go.Proofs.Ymwhap
