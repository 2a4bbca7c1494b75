/-
  Count's model, walked.
-/
import Derived.Test.YmwhapInts
import Derived.Test.YmwhapOpen
import Derived.OpenShut
namespace Go.Proofs.Ymwhap
open Go.RowKit

/-- The endpoints of the first k steps. -/
def eps (N : List (Int × Int)) : Nat → List Int
  | 0 => []
  | k + 1 => eps N k ++ [lo N k, hi N k]
theorem eps_len (N : List (Int × Int)) : ∀ k, (eps N k).length = 2 * k
  | 0 => rfl
  | k + 1 => by rw [eps, List.length_append, eps_len N k]; simp; omega
theorem eps_mem (N : List (Int × Int)) (j : Nat) : ∀ k, j < k → lo N j ∈ eps N k ∧ hi N j ∈ eps N k
  | 0, h => by omega
  | k + 1, h => by
    rw [eps]
    by_cases e : j = k
    · subst e
      simp
    · have := eps_mem N j k (by omega)
      simp [this.1, this.2]
theorem eps_all (N : List (Int × Int)) (p : Int → Prop) : ∀ k, (∀ j, j < k → p (lo N j) ∧ p (hi N j)) → ∀ x ∈ eps N k, p x
  | 0, _, x, h => by simp [eps] at h
  | k + 1, hp, x, h => by
    rw [eps] at h
    simp only [List.mem_append, List.mem_cons, List.not_mem_nil, or_false] at h
    rcases h with h | rfl | rfl
    · exact eps_all N p k (fun j hj => hp j (by omega)) x h
    · exact (hp k (by omega)).1
    · exact (hp k (by omega)).2
/-- The endpoints, sorted, runs struck. -/
def ends (N : List (Int × Int)) : List Int := Lib.compact ((eps N N.length).mergeSort fun x y => decide (x ≤ y))
theorem ends_asc (N : List (Int × Int)) : Asc (ends N) := (sort_ok (eps N N.length)).2
theorem ends_mem (N : List (Int × Int)) (j : Nat) (h : j < N.length) : lo N j ∈ ends N ∧ hi N j ∈ ends N := by
  have := eps_mem N j N.length h
  exact ⟨((sort_ok (eps N N.length)).1 _).2 this.1, ((sort_ok (eps N N.length)).1 _).2 this.2⟩
theorem ends_i64 (N : List (Int × Int)) (h : ∀ j, j < N.length → I64 (lo N j) ∧ I64 (hi N j)) (k : Nat) (hk : k < (ends N).length) : I64 (zAt (ends N) k) :=
  eps_all N I64 N.length h _ (((sort_ok (eps N N.length)).1 _).1 (zAt_mem hk))
theorem ends_len (N : List (Int × Int)) : (ends N).length ≤ 2 * N.length := by
  have h := compact_len ((eps N N.length).mergeSort fun x y => decide (x ≤ y))
  rw [List.length_mergeSort, eps_len] at h
  exact h
theorem inB_in {O : List Int} {N : List (Int × Int)} {a b : Int} {k : Nat} (h1 : lo N k ≤ a) (h2 : b ≤ hi N k) : inB O N a b (k + 1) = decide (opAt O k % 2 = 0) := by rw [inB, if_pos ⟨h1, h2⟩]
theorem inB_out {O : List Int} {N : List (Int × Int)} {a b : Int} {k : Nat} (h : ¬ (lo N k ≤ a ∧ b ≤ hi N k)) : inB O N a b (k + 1) = inB O N a b k := by rw [inB, if_neg h]
/-- The total behind one piece. -/
theorem total_in {O : List Int} {N : List (Int × Int)} {E : List Int} {n k : Nat} {q : Int} (hq : q = IntKind.u64.wrap (pcs O N E n k)) (hE : Asc E) (hk : k + 1 < E.length) (hi : ∀ k, k < E.length → I64 (zAt E k)) (h : inB O N (zAt E k) (zAt E (k + 1)) n = true) :
    IntKind.u64.wrap (q + IntKind.u64.wrap (IntKind.u64.wrap (zAt E (k + 1)) - IntKind.u64.wrap (zAt E k))) = IntKind.u64.wrap (pcs O N E n (k + 1)) := by
  rw [piece_val (hE k (k + 1) (by omega) hk) (hi k (by omega)) (hi (k + 1) hk), hq, wrap_wrap_add, pcs, if_pos h]
theorem total_out {O : List Int} {N : List (Int × Int)} {E : List Int} {n k : Nat} {q : Int} (hq : q = IntKind.u64.wrap (pcs O N E n k)) (h : ¬ inB O N (zAt E k) (zAt E (k + 1)) n = true) : q = IntKind.u64.wrap (pcs O N E n (k + 1)) := by
  rw [hq, pcs, if_neg h, Int.add_zero]

set_option maxHeartbeats 2000000 in
set_option maxRecDepth 100000 in
theorem cntmodel_any (a : Option Addr) (c : Nat) (O : List Int) (P : List (Int × Int)) (w : World) (hl : P.length ≤ 300) (hin : Stp w a O P) (hN : ∀ j, j < P.length → I64 (lo (P.map nz) j) ∧ I64 (hi (P.map nz) j)) :
    Calls Yapv.prog 22 #[.slice a P.length c] w fun e w' => e = .returned (.int .u64 (IntKind.u64.wrap (szs (bld O (P.map nz) P.length)))) ∧ Below w.heap.size w w' := by
  have hL : (P.map nz).length = P.length := by simp
  have HS : Hid (pcs O (P.map nz) (ends (P.map nz)) P.length ((ends (P.map nz)).length - 1) = szs (bld O (P.map nz) P.length)) := by
    have := pcs_szs O (P.map nz) (ends_asc _) (ends_mem (P.map nz))
    rw [hL] at this
    exact this
  have HA : Hid (Asc (ends (P.map nz))) := ends_asc _
  have HI : Hid (∀ k, k < (ends (P.map nz)).length → I64 (zAt (ends (P.map nz)) k)) := ends_i64 _ (by rw [hL]; exact hN)
  have hlen := ends_len (P.map nz)
  have hE0 : Hid (Lib.compact ((eps (P.map nz) P.length).mergeSort fun x y => decide (x ≤ y)) = ends (P.map nz)) := by
    rw [ends, hL]
    exact rfl
  have HZ : Hid (∀ j, j < P.length → (if hi P j < lo P j then hi P j else lo P j) = lo (P.map nz) j ∧ (if hi P j < lo P j then lo P j else hi P j) = hi (P.map nz) j) := fun j hj => ⟨lo_nz hj, hi_nz hj⟩
  rw [hL] at hlen
  clear hN hL
  generalize ends (P.map nz) = E at *
  generalize szs (bld O (P.map nz) P.length) = S at *
  generalize P.map nz = N at *
  go_enter Yapv.func22, Yapv.ntmps22
  go_wp2_with (at_make; refine wpList_make_in _ rfl _ _ rfl w.heap.size .i64 .i64 _ (2 * P.length) rfl rfl (by go_num) (by omega) (Nat.le_refl _) ?_)
  intro v1 w1 hI1 hb1
  go_wp2
  go_loopw [3, 4] (fun es i wr => ∃ j : Nat, j ≤ P.length ∧ i = .int .i64 j ∧ Ins wr w.heap.size es (eps N j) ∧ Below w.heap.size w wr) (fun _ i _ => P.length - (intOf i).toNat)
  case atStart => exact ⟨0, Nat.zero_le _, rfl, hI1, hb1⟩
  case round =>
    clear hI1 hb1
    obtain ⟨j, hj, rfl, hI, hb⟩ := hrel
    have hel : Hid ((eps N j).length = 2 * j) := eps_len N j
    obtain ⟨g, cg, rfl⟩ := hI.slice
    by_cases hlt : j < P.length
    · obtain ⟨b, o, rfl, hbw, c0, c1, c2, w0, _, _⟩ := (hin.below hb) j hlt
      obtain ⟨z1, z2⟩ := HZ.out j hlt
      go_wp2_with fail
      refine (norm_any _ _ _ (lo N j) (hi N j) _ z1 z2).mono ?_
      rintro e w2 ⟨rfl, hb2⟩
      have hI2 := hI.below hb2
      have hB2 := hb.trans (hb2.mono hb.size)
      clear hI hb hb2 c0 c1 c2 z1 z2
      go_wp2_with (at_builtin; refine wpList_append_in _ rfl _ _ rfl w.heap.size _ (eps N j) rfl hI2 _ rfl rfl (by have := hel.out; omega) hB2.size ?_)
      intro v3 w3 hI3 hb3
      go_wp2
      go_roundw
      case rel => exact ⟨j + 1, hlt, by go_num, hI3, hB2.trans hb3⟩
      case measure => simp [intOf]; omega
    · obtain rfl : j = P.length := by omega
      rename World => w2
      go_wp2_with fail
      refine (sort_any w.heap.size _ _ _ hI (by have := hel.out; omega)).mono ?_
      rintro e w3 ⟨rfl, hI3, hb3⟩
      have hB3 := hb.trans hb3
      go_wp2_with fail
      refine (compact_any w.heap.size _ _ _ hI3 (by rw [List.length_mergeSort]; have := hel.out; omega)).mono ?_
      rintro e w4 ⟨v4, rfl, hI4, hb4⟩
      have hB4 := hB3.trans hb4
      rw [hE0.out] at hI4
      clear hI hb hI3 hb3 hb4 hB3 hel hj hlt hE0
      obtain ⟨gE, cE, rfl⟩ := hI4.slice
      go_wp2
      go_loopw [7, 8] (fun t i wx => ∃ (k : Nat) (q : Int), (k + 1 ≤ E.length ∨ k = 0) ∧ i = .int .i64 k ∧ t = .int .u64 q ∧ Hid (q = IntKind.u64.wrap (pcs O N E P.length k)) ∧ Below w4.heap.size w4 wx) (fun _ i _ => E.length - (intOf i).toNat)
      case atStart => exact ⟨0, 0, .inr rfl, rfl, rfl, rfl, Below.refl _ _⟩
      case round =>
        obtain ⟨k, q, hk, rfl, rfl, HQ, hbx⟩ := hrel
        rename World => w5
        have hI5 := hI4.below hbx
        have hB5 := hB4.trans (hbx.mono hB4.size)
        by_cases hlt : k + 1 < E.length
        · have ca := hI5.cell k (by omega)
          have cb := hI5.cell (k + 1) hlt
          have hlt' : (k : Int) + 1 < (E.length : Int) := by omega
          have hlt'' : (k : Int) < (E.length : Int) := by omega
          go_wp2
          go_quiet (fail)
          go_wp2
          clear ca cb hlt' hlt'' hI5 hB5
          go_loopw [11, 12] (fun t i wy => ∃ m : Nat, m ≤ P.length ∧ i = .int .i64 m ∧ t = .bool (inB O N (zAt E k) (zAt E (k + 1)) m) ∧ Below w4.heap.size w4 wy) (fun _ i _ => P.length - (intOf i).toNat)
          case atStart => exact ⟨0, Nat.zero_le _, rfl, rfl, below_drewN hbx _⟩
          case round =>
            clear hbx
            obtain ⟨m, hm, rfl, rfl, hby⟩ := hrel
            have hB6 := hB4.trans (hby.mono hB4.size)
            by_cases hmt : m < P.length
            · obtain ⟨b, o, rfl, hbw, c0, c1, c2, w0, _, _⟩ := (hin.below hB6) m hmt
              obtain ⟨z1, z2⟩ := HZ.out m hmt
              have hu : 0 ≤ opAt O m ∧ opAt O m ≤ 255 := by have := bounds_u8 w0; omega
              go_wp2_with fail
              refine (norm_any _ _ _ (lo N m) (hi N m) _ z1 z2).mono ?_
              rintro e w7 ⟨rfl, hb7⟩
              have d0 := (hb7.cell (p := ⟨b, o + m * 3, none⟩) hbw).trans c0
              have hB7 := hby.trans (hb7.mono hby.size)
              clear c0 c1 c2 z1 z2 hB6 hby hb7
              by_cases h1 : lo N m ≤ zAt E k
              · by_cases h2 : zAt E (k + 1) ≤ hi N m
                · go_wp2
                  go_roundw
                  case rel => exact ⟨m + 1, hmt, by go_num, by rw [inB_in h1 h2]; rfl, hB7⟩
                  case measure => simp [intOf]; omega
                · go_wp2
                  go_roundw
                  case rel => exact ⟨m + 1, hmt, by go_num, by rw [inB_out (by omega)], hB7⟩
                  case measure => simp [intOf]; omega
              · go_wp2
                go_roundw
                case rel => exact ⟨m + 1, hmt, by go_num, by rw [inB_out (by omega)], hB7⟩
                case measure => simp [intOf]; omega
            · obtain rfl : m = P.length := by omega
              by_cases hi' : inB O N (zAt E k) (zAt E (k + 1)) P.length = true
              · rw [hi']
                go_wp2
                go_roundw
                case rel => exact ⟨k + 1, _, .inl hlt, by go_num, rfl, total_in HQ.out HA.out hlt HI.out hi', hby⟩
                case measure => simp [intOf]; omega
              · rw [Bool.eq_false_iff.2 hi']
                go_wp2
                go_roundw
                case rel => exact ⟨k + 1, _, .inl hlt, by go_num, rfl, total_out HQ.out hi', hby⟩
                case measure => simp [intOf]; omega
        · have hke : k = E.length - 1 := by omega
          have hlt' : ¬ (k : Int) + 1 < (E.length : Int) := by omega
          rw [hke, HS.out] at HQ
          have HQ' : Hid (q = IntKind.u64.wrap S) := HQ
          clear hke
          go_wp2
          go_ret
          exact ⟨ret_int HQ'.out, hB5⟩
end Go.Proofs.Ymwhap
