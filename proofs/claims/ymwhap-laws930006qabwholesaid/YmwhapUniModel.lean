/-
  The model of Union, walked: all mapped spans, sorted by insertion, merged.
-/
import Derived.Test.YmwhapInsPlain
import Derived.Test.YmwhapNorm
import Derived.Deep.CutBlock
namespace Go.Proofs.Ymwhap
open Go.RowKit

/-- Two spans of one row. -/
theorem Sps.cells2 {w : World} {B n c : Nat} {a : Option Addr} {l : List (Int × Int)} (h : Sps w B (.slice a n c) l) (k j : Nat) (hk : k < l.length) (hj : j < l.length) :
    ∃ g, a = some ⟨g, 0, none⟩ ∧ B ≤ g ∧ g < w.heap.size ∧ w.cell? ⟨g, k * 2, none⟩ = some (.int .i64 (lo l k)) ∧ w.cell? ⟨g, k * 2 + 1, none⟩ = some (.int .i64 (hi l k)) ∧ w.cell? ⟨g, j * 2, none⟩ = some (.int .i64 (lo l j)) ∧ w.cell? ⟨g, j * 2 + 1, none⟩ = some (.int .i64 (hi l j)) ∧ ∀ i, w.frozen? ⟨g, i, none⟩ = false := by
  obtain ⟨g, rfl, h1, h2, h3, h4⟩ := h.cells k hk
  obtain ⟨g', e, _, _, h5, h6⟩ := h.cells j hj
  obtain rfl : g = g' := by simpa using e
  have hn : l.length = n := by
    rcases h.2 with ⟨e, _⟩ | ⟨_, _, _, e, _⟩
    · cases e
    · simp at e; exact e.2.1.symm
  exact ⟨g, rfl, h1, h2, h3, h4, h5, h6, fun i => h.notFrozen hn i⟩

/-- A span written anew. -/
theorem Sps.setSpan {w : World} {B g n c : Nat} {l : List (Int × Int)} (h : Sps w B (.slice (some ⟨g, 0, none⟩) n c) l) (hn : l.length = n) (k : Nat) (hk : k < l.length) (x y : Int) :
    Sps ((w.setCell ⟨g, k * 2, none⟩ (.int .i64 x)).setCell ⟨g, k * 2 + 1, none⟩ (.int .i64 y)) B (.slice (some ⟨g, 0, none⟩) n c) (l.set k (x, y)) := by
  subst hn
  have h1 := (World.ownsRow.stored h (k * 2) (.int .i64 x)).1
  have h2 := (World.ownsRow.stored h1 (k * 2 + 1) (.int .i64 y)).1
  unfold Sps
  rw [← flat_set l k x y hk, List.length_set]
  exact h2

set_option maxHeartbeats 2000000 in
set_option maxRecDepth 100000 in
theorem unimodel_any (a b : Option Addr) (ca cb : Nat) (S T : List (Int × Int)) (w : World) (h1 : Prs .i64 .i64 w a S) (h2 : Prs .i64 .i64 w b T) (hI1 : ∀ k, k < S.length → I64 (lo S k) ∧ I64 (hi S k)) (hI2 : ∀ k, k < T.length → I64 (lo T k) ∧ I64 (hi T k))
    (hS : S.length ≤ 512) (hT : T.length ≤ 512) :
    Calls Yapv.prog 18 #[.slice a S.length ca, .slice b T.length cb] w fun e w' => ∃ v' R, e = .returned v' ∧ Sps w' w.heap.size v' R ∧ Can R ∧ (∀ z, Mem R z ↔ Mem (nl S S.length ++ nl T T.length) z) ∧ Below w.heap.size w w' := by
  go_enter Yapv.func18, Yapv.ntmps18
  go_wp2_with (at_make; refine wpList_make_sp _ rfl _ _ rfl w.heap.size .i64 .i64 _ (S.length + T.length) rfl rfl (by omega) (by omega) (Nat.le_refl _) ?_)
  intro v0 w0 ho0 hb0
  go_upto_block 0 with fail
  go_cut [5] (fun v wx => Sps wx w.heap.size v (nl S S.length) ∧ Below w.heap.size w wx)
  case first =>
    go_wp2
    go_loopw [5, 6] (fun v i wr => ∃ j : Nat, j ≤ S.length ∧ i = .int .i64 j ∧ Sps wr w.heap.size v (nl S j) ∧ Below w.heap.size w wr) (fun _ i _ => S.length - (intOf i).toNat)
    case atStart => exact ⟨0, Nat.zero_le _, rfl, ho0, hb0⟩
    case round =>
      clear ho0 hb0
      obtain ⟨j, hj, rfl, ho, hb⟩ := hrel
      have hnl := nl_len S j
      have hsz := hb.size
      by_cases hlt : j < S.length
      · obtain ⟨b', o, rfl, hbw, c0, c1, _, _⟩ := (h1.below hb) j hlt
        obtain ⟨i0, i1⟩ := hI1 j hlt
        cases hq : nrm (lo S j) (hi S j) with
        | some q =>
          have HQ : Hid (nl S (j + 1) = nl S j ++ [(q.1, q.2)]) := nl_some hq
          have HN : Hid (nrm (lo S j) (hi S j) = some q) := hq
          clear hq
          go_wp2_with fail
          refine (norm_some _ _ q _ i0 i1 HN.out).mono ?_
          rintro e w1 ⟨rfl, hb1⟩
          have hs1 := ho.below hb1
          have hb2 := hb.trans (hb1.mono hb.size)
          have hsz1 := hb2.size
          go_wp2_with (at_builtin; refine wpList_append_at _ rfl _ _ rfl w.heap.size _ _ rfl (World.ownsRow.alloc hs1 _) q.1 q.2 _ rfl (by simp) rfl rfl (by omega) (by simp; omega) ?_)
          intro v' w' ho' hb'
          go_wp2
          go_roundw
          case rel => exact ⟨j + 1, hlt, by go_num, by rw [HQ.out]; exact ho', (hb2.alloc hsz1 _).trans hb'⟩
          case measure => simp [intOf]; omega
        | none =>
          have HQ : Hid (nl S (j + 1) = nl S j) := nl_none hq
          have HN : Hid (nrm (lo S j) (hi S j) = none) := hq
          clear hq
          go_wp2_with fail
          refine (norm_none _ _ _ HN.out).mono ?_
          rintro e w1 ⟨rfl, hb1⟩
          have hs1 := ho.below hb1
          have hb2 := hb.trans (hb1.mono hb.size)
          go_wp2
          go_roundw
          case rel => exact ⟨j + 1, hlt, by go_num, by rw [HQ.out]; exact World.ownsRow.alloc hs1 _, hb2.alloc hb2.size _⟩
          case measure => simp [intOf]; omega
      · obtain rfl : j = S.length := by omega
        go_wp2
        go_meet
        exact ⟨ho, hb⟩
  case rest =>
  clear ho0 hb0
  obtain ⟨ho1, hb1⟩ := hcut
  go_upto_block 2 with fail
  go_cut [5] (fun v wx => Sps wx w.heap.size v (nl S S.length ++ nl T T.length) ∧ Below w.heap.size w wx)
  case first =>
    go_wp2
    go_loopw [5, 9] (fun v i wr => ∃ j : Nat, j ≤ T.length ∧ i = .int .i64 j ∧ Sps wr w.heap.size v (nl S S.length ++ nl T j) ∧ Below w.heap.size w wr) (fun _ i _ => T.length - (intOf i).toNat)
    case atStart => exact ⟨0, Nat.zero_le _, rfl, by rw [nl, List.append_nil]; exact ho1, hb1⟩
    case round =>
      clear ho1 hb1
      obtain ⟨j, hj, rfl, ho, hb⟩ := hrel
      have hnl := nl_len T j
      have hnl' := nl_len S S.length
      have hsz := hb.size
      by_cases hlt : j < T.length
      · obtain ⟨b', o, rfl, hbw, c0, c1, _, _⟩ := (h2.below hb) j hlt
        obtain ⟨i0, i1⟩ := hI2 j hlt
        cases hq : nrm (lo T j) (hi T j) with
        | some q =>
          have HQ : Hid (nl S S.length ++ nl T (j + 1) = (nl S S.length ++ nl T j) ++ [(q.1, q.2)]) := by
            show _ = _
            rw [nl_some hq, List.append_assoc]
          have HN : Hid (nrm (lo T j) (hi T j) = some q) := hq
          clear hq
          generalize hM : nl S S.length ++ nl T j = M at *
          have hMl : M.length ≤ 1024 := by rw [← hM, List.length_append]; omega
          clear hM
          go_wp2_with fail
          refine (norm_some _ _ q _ i0 i1 HN.out).mono ?_
          rintro e w1 ⟨rfl, hb1⟩
          have hs1 := ho.below hb1
          have hb2 := hb.trans (hb1.mono hb.size)
          have hsz1 := hb2.size
          go_wp2_with (at_builtin; refine wpList_append_at _ rfl _ _ rfl w.heap.size _ _ rfl (World.ownsRow.alloc hs1 _) q.1 q.2 _ rfl (by simp) rfl rfl (by omega) (by simp; omega) ?_)
          intro v' w' ho' hb'
          go_wp2
          go_roundw
          case rel => exact ⟨j + 1, hlt, by go_num, by rw [HQ.out]; exact ho', (hb2.alloc hsz1 _).trans hb'⟩
          case measure => simp [intOf]; omega
        | none =>
          have HQ : Hid (nl T (j + 1) = nl T j) := nl_none hq
          have HN : Hid (nrm (lo T j) (hi T j) = none) := hq
          clear hq
          go_wp2_with fail
          refine (norm_none _ _ _ HN.out).mono ?_
          rintro e w1 ⟨rfl, hb1⟩
          have hs1 := ho.below hb1
          have hb2 := hb.trans (hb1.mono hb.size)
          go_wp2
          go_roundw
          case rel => exact ⟨j + 1, hlt, by go_num, by rw [HQ.out]; exact World.ownsRow.alloc hs1 _, hb2.alloc hb2.size _⟩
          case measure => simp [intOf]; omega
      · obtain rfl : j = T.length := by omega
        go_wp2
        go_meet
        exact ⟨ho, hb⟩
  case rest =>
  clear ho1 hb1
  obtain ⟨ho2, hb2⟩ := hcut
  have hMl : (nl S S.length ++ nl T T.length).length ≤ 1024 := by
    have := nl_len S S.length
    have := nl_len T T.length
    rw [List.length_append]
    omega
  have hne : ∀ q ∈ nl S S.length ++ nl T T.length, q.1 < q.2 := by
    intro q hq
    rcases List.mem_append.1 hq with hq | hq
    · exact nl_ne _ _ q hq
    · exact nl_ne _ _ q hq
  generalize hMe : nl S S.length ++ nl T T.length = M at *
  have HMe : Hid (nl S S.length ++ nl T T.length = M) := hMe
  clear hMe
  obtain ⟨av, cv, rfl⟩ := ho2.slice
  clear h1 h2 hI1 hI2
  go_upto_block 4 with fail
  go_cut [] (fun wx => ∃ L, L.length = M.length ∧ Sps wx w.heap.size (.slice av M.length cv) L ∧ L.Perm M ∧ Srt L L.length ∧ Below w.heap.size w wx)
  case first =>
    go_wp2
    go_loopw [12] (fun i wr => ∃ (j : Nat) (L : List (Int × Int)), 1 ≤ j ∧ (j ≤ M.length ∨ j = 1) ∧ i = .int .i64 j ∧ L.length = M.length ∧ Sps wr w.heap.size (.slice av M.length cv) L ∧ Hid (L.Perm M ∧ Srt L j) ∧ Below w.heap.size w wr) (fun i _ => M.length - (intOf i).toNat)
    case atStart => exact ⟨1, M, Nat.le_refl _, .inr rfl, rfl, rfl, ho2, ⟨List.Perm.refl _, srt_one M⟩, hb2⟩
    case round =>
      clear ho2 hb2
      obtain ⟨i, L0, hi1, hi2, rfl, hL0, ho0, HP0, hb0⟩ := hrel
      by_cases hlt : i < M.length
      · go_wp2
        go_loopw [13] (fun kk wr => ∃ (k : Nat) (L : List (Int × Int)), k ≤ i ∧ kk = .int .i64 k ∧ L.length = M.length ∧ Sps wr w.heap.size (.slice av M.length cv) L ∧ Hid (L.Perm M ∧ Ins L i k) ∧ Below w.heap.size w wr) (fun kk _ => (intOf kk).toNat)
        case atStart => exact ⟨i, L0, Nat.le_refl _, rfl, hL0, ho0, ⟨HP0.out.1, ins_start HP0.out.2⟩, hb0⟩
        case round =>
          clear ho0 hb0
          obtain ⟨k, L, hk, rfl, hL, ho, HP, hb⟩ := hrel
          have hsz := hb.size
          cases k with
          | zero =>
            have hd : decide ((0 : Int) < ((0 : Nat) : Int)) = false := by decide
            go_wp2
            go_quiet (fail)
            go_wp2
            go_roundw
            case rel => exact ⟨i + 1, L, by omega, .inl (by omega), by go_num, hL, ho, ⟨HP.out.1, ins_end HP.out.2 (.inl rfl) hk⟩, below_drewN hb _⟩
            case measure => simp [intOf]; omega
          | succ m =>
            obtain ⟨g, rfl, hBg, hg, c0, c1, d0, d1, hfz⟩ := ho.cells2 m (m + 1) (by omega) (by omega)
            have hd : decide ((0 : Int) < ((m + 1 : Nat) : Int)) = true := decide_eq_true (by omega)
            have hd' : (0 : Int) < ((m + 1 : Nat) : Int) := by omega
            have hm1 : (m : Int) < (M.length : Int) := by omega
            have hm2 : (m : Int) + 1 < (M.length : Int) := by omega
            by_cases hc : lo L (m + 1) < lo L m
            · go_wp2
              go_quiet (fail)
              have hoq : Sps (wr.drewN nq) w.heap.size (Value.slice (some { block := g, off := 0 }) M.length cv) L := ho
              have hbq : Below w.heap.size w (wr.drewN nq) := below_drewN hb nq
              clear ho hb c0 c1 d0 d1 hfz hsz hg
              generalize wr.drewN nq = wq at *
              obtain ⟨g', eg, _, hg, c0, c1, d0, d1, hfz⟩ := hoq.cells2 m (m + 1) (by omega) (by omega)
              obtain rfl : g = g' := by simpa using eg
              clear eg
              have hsz := hbq.size
              go_wp2
              go_roundw
              case rel =>
                refine ⟨m, swp L m, by omega, rfl, by rw [swp_length]; exact hL, ?_, ⟨(swp_perm (by omega)).trans HP.out.1, ins_step (by omega) hk HP.out.2 hc⟩, ?_⟩
                · exact World.ownsRow.alloc (Sps.setSpan (Sps.setSpan hoq hL (m + 1) (by omega) _ _) (by rw [List.length_set]; exact hL) m (by rw [List.length_set]; omega) _ _) _
                · exact ((((hbq.setCell hBg _).setCell hBg _).setCell hBg _).setCell hBg _).alloc (by simp; omega) _
              case measure => simp [intOf]
            · have hcd : decide (lo L (m + 1) < lo L m) = false := decide_eq_false hc
              go_wp2
              go_quiet (fail)
              go_wp2
              go_roundw
              case rel => exact ⟨i + 1, L, by omega, .inl (by omega), by go_num, hL, ho, ⟨HP.out.1, ins_end HP.out.2 (.inr ⟨m, rfl, by omega⟩) hk⟩, below_drewN hb _⟩
              case measure => simp [intOf]; omega
      · go_wp2
        go_meet
        refine ⟨L0, hL0, ho0, HP0.out.1, ?_, hb0⟩
        intro x y hxy hy
        by_cases h : 1 < M.length
        · exact HP0.out.2 x y hxy (by omega)
        · omega
  case rest =>
  obtain ⟨L, hL, ho3, hperm, hsrt, hb3⟩ := hcut
  clear ho2 hb2
  have HM : Hid (∀ z, Mem L z ↔ Mem M z) := mem_perm hperm
  have hneL : ∀ q ∈ L, q.1 < q.2 := fun q hq => hne q (hperm.mem_iff.1 hq)
  clear hperm hne
  rename World => w3
  go_wp2
  go_loopw [15, 16] (fun v i wr => ∃ (j : Nat) (out : List (Int × Int)), j ≤ M.length ∧ i = .int .i64 j ∧ Sps wr w3.heap.size v out ∧ MI L j out ∧ Below w3.heap.size w3 wr) (fun _ i _ => M.length - (intOf i).toNat)
  case atStart => exact ⟨0, [], Nat.zero_le _, rfl, World.ownsRow_nil _ _ _ _, mi_start L, Below.refl _ _⟩
  case round =>
    obtain ⟨j, out, hj, rfl, ho, hM, hb⟩ := hrel
    have hol := hM.2.2.2
    have hsz := hb.size
    by_cases hlt : j < M.length
    · have hM' := mi_step hsrt hneL hM (by omega)
      obtain ⟨g, rfl, hBg, hg, c0, c1⟩ := (ho3.below hb).cells j (by omega)
      obtain ⟨ao, co, rfl⟩ := ho.slice
      by_cases h0 : out.length = 0
      · have HR : Hid (psh out (lo L j) (hi L j) = out ++ [(lo L j, hi L j)]) := psh_app (.inl h0)
        have hd : decide ((0 : Int) < (out.length : Int)) = false := decide_eq_false (by omega)
        go_wp2
        go_quiet (fail)
        go_wp2_with (at_builtin; refine wpList_append_at _ rfl _ _ rfl w3.heap.size _ out rfl (World.ownsRow.alloc ho _) (lo L j) (hi L j) _ rfl (by simp [World.drewN]) rfl rfl (by omega) (by simp [World.drewN]; omega) ?_)
        intro v' w' ho' hb'
        go_wp2
        go_roundw
        case rel => exact ⟨j + 1, _, hlt, by go_num, by rw [HR.out]; exact ho', hM', (below_drewN (hb.alloc hsz _) _).trans hb'⟩
        case measure => simp [intOf]; omega
      · obtain ⟨g2, rfl, hBg2, hg2, e0, e1⟩ := ho.cells (out.length - 1) (by omega)
        have hfz := ho.notFrozen rfl ((out.length - 1) * 2 + 1)
        have q1 : Hid (hi out (out.length - 1) < lo L j → psh out (lo L j) (hi L j) = out ++ [(lo L j, hi L j)]) := fun h => psh_app (.inr h)
        have q2 : Hid (¬ hi out (out.length - 1) < lo L j → hi out (out.length - 1) < hi L j → psh out (lo L j) (hi L j) = out.set (out.length - 1) (lo out (out.length - 1), hi L j)) := fun h1 h2 => psh_set h0 h1 h2
        have q3 : Hid (¬ hi out (out.length - 1) < lo L j → ¬ hi out (out.length - 1) < hi L j → psh out (lo L j) (hi L j) = out) := fun h1 h2 => psh_same h0 h1 h2
        generalize hN : out.length = n at *
        have HN : Hid (out.length = n) := hN
        clear hN
        have hp : (0 : Int) < (n : Int) := by omega
        have hp2 : 0 < n := by omega
        have hd : decide (0 < n) = true := decide_eq_true hp2
        by_cases h1 : hi out (n - 1) < lo L j
        · have hge : decide (lo L j ≤ hi out (n - 1)) = false := decide_eq_false (by omega)
          go_wp2
          go_quiet (fail)
          go_wp2_with (at_builtin; refine wpList_append_at _ rfl _ _ rfl w3.heap.size _ out rfl (World.ownsRow.alloc ho _) (lo L j) (hi L j) _ rfl (by simp [World.drewN]) rfl rfl (by rw [HN.out]; omega) (by simp [World.drewN]; omega) ?_)
          intro v' w' ho' hb'
          go_wp2
          go_roundw
          case rel => exact ⟨j + 1, _, hlt, by go_num, by rw [q1.out h1]; exact ho', hM', (below_drewN (hb.alloc hsz _) _).trans hb'⟩
          case measure => simp [intOf]; omega
        · have hge : decide (lo L j ≤ hi out (n - 1)) = true := decide_eq_true (by omega)
          have hge' : lo L j ≤ hi out (n - 1) := by omega
          by_cases h2 : hi out (n - 1) < hi L j
          · go_wp2
            go_quiet (fail)
            go_wp2
            go_quiet (fail)
            go_wp2
            go_roundw
            case rel =>
              refine ⟨j + 1, _, hlt, by go_num, ?_, hM', ?_⟩
              · rw [q2.out (by omega) h2]
                exact Sps.setHi (World.ownsRow.alloc ho _) HN.out _ (by rw [HN.out]; omega) _
              · exact ((hb.alloc hsz _).setCell (p := ⟨g2, _, none⟩) hBg2 _).trans ⟨rfl, rfl, rfl, Nat.le_refl _, fun _ _ => rfl⟩
            case measure => simp [intOf]; omega
          · go_wp2
            go_quiet (fail)
            go_wp2
            go_quiet (fail)
            go_wp2
            go_roundw
            case rel => exact ⟨j + 1, _, hlt, by go_num, by rw [q3.out (by omega) (by omega)]; exact World.ownsRow.alloc ho _, hM', below_drewN (hb.alloc hsz _) _⟩
            case measure => simp [intOf]; omega
    · have hm := mi_end hM (by omega)
      have hC := hM.1
      have HMz : Hid (∀ z, Mem out z ↔ Mem (nl S S.length ++ nl T T.length) z) := fun z => by rw [HMe.out]; exact (hm z).trans (HM.out z)
      clear hm HM
      go_wp2
      go_ret
      exact ⟨_, out, rfl, ho.base hb3.size, hC, HMz.out, hb3.trans (hb.mono hb3.size)⟩
end Go.Proofs.Ymwhap
