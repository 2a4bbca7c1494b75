/-
  Count and its model, on lists: how many members lie in a range; a canonical list's sizes add up to it, and so do the pieces between endpoints.
-/
import Derived.Test.YmwhapRankPlain
import Derived.Lib.SlicesCompact
namespace Go.Proofs.Ymwhap
open Go.RowKit

/-- How many of the n numbers from u on meet f. -/
def cnt (f : Int → Bool) (u : Int) : Nat → Int
  | 0 => 0
  | n + 1 => cnt f u n + (if f (u + n) then 1 else 0)
theorem cnt_add (f : Int → Bool) (u : Int) (n : Nat) : ∀ m, cnt f u (n + m) = cnt f u n + cnt f (u + n) m
  | 0 => by simp [cnt]
  | m + 1 => by
    have ih := cnt_add f u n m
    rw [← Nat.add_assoc, cnt, cnt, ih]
    have e : u + ((n + m : Nat) : Int) = u + (n : Int) + (m : Int) := by omega
    rw [e]
    omega
theorem cnt_congr (f g : Int → Bool) (u : Int) : ∀ n : Nat, (∀ x, u ≤ x → x < u + n → f x = g x) → cnt f u n = cnt g u n
  | 0, _ => rfl
  | n + 1, h => by
    rw [cnt, cnt, cnt_congr f g u n (fun x h1 h2 => h x h1 (by omega)), h (u + n) (by omega) (by omega)]
theorem cnt_all (f : Int → Bool) (u : Int) : ∀ n : Nat, (∀ x, u ≤ x → x < u + n → f x = true) → cnt f u n = n
  | 0, _ => rfl
  | n + 1, h => by
    rw [cnt, cnt_all f u n (fun x h1 h2 => h x h1 (by omega)), h (u + n) (by omega) (by omega)]
    simp
theorem cnt_none (f : Int → Bool) (u : Int) : ∀ n : Nat, (∀ x, u ≤ x → x < u + n → f x = false) → cnt f u n = 0
  | 0, _ => rfl
  | n + 1, h => by
    rw [cnt, cnt_none f u n (fun x h1 h2 => h x h1 (by omega)), h (u + n) (by omega) (by omega)]
    simp
/-- .. of those in [u, v). -/
def rng (f : Int → Bool) (u v : Int) : Int := cnt f u (v - u).toNat
theorem rng_split (f : Int → Bool) {u m v : Int} (h1 : u ≤ m) (h2 : m ≤ v) : rng f u v = rng f u m + rng f m v := by
  unfold rng
  have e : (v - u).toNat = (m - u).toNat + (v - m).toNat := by omega
  have e2 : u + ((m - u).toNat : Int) = m := by omega
  rw [e, cnt_add, e2]
theorem rng_all (f : Int → Bool) {u v : Int} (h : u ≤ v) (hf : ∀ x, u ≤ x → x < v → f x = true) : rng f u v = v - u := by
  unfold rng
  rw [cnt_all f u _ (fun x h1 h2 => hf x h1 (by omega))]
  omega
theorem rng_none (f : Int → Bool) {u v : Int} (hf : ∀ x, u ≤ x → x < v → f x = false) : rng f u v = 0 := by
  unfold rng
  exact cnt_none f u _ (fun x h1 h2 => hf x h1 (by omega))
theorem rng_congr (f g : Int → Bool) {u v : Int} (h : ∀ x, u ≤ x → x < v → f x = g x) : rng f u v = rng g u v := by
  unfold rng
  exact cnt_congr f g u _ (fun x h1 h2 => h x h1 (by omega))

/-! ### The sizes of a canonical list -/
def szs : List (Int × Int) → Int
  | [] => 0
  | p :: r => (p.2 - p.1) + szs r
theorem memB_cons (p : Int × Int) (r : List (Int × Int)) (x : Int) : memB (p :: r) x = ((decide (p.1 ≤ x) && decide (x < p.2)) || memB r x) := rfl
theorem memB_before {l : List (Int × Int)} {x : Int} (h : ∀ q ∈ l, x < q.1) : memB l x = false := by
  rw [Bool.eq_false_iff]
  intro e
  obtain ⟨q, hq, h1, h2⟩ := (memB_iff l x).1 e
  have := h q hq
  omega
theorem szs_rng (l : List (Int × Int)) : ∀ (u v : Int), Can l → (∀ q ∈ l, u ≤ q.1 ∧ q.2 ≤ v) → u ≤ v → rng (memB l) u v = szs l := by
  induction l with
  | nil => intro u v _ _ _; exact rng_none _ (fun x _ _ => rfl)
  | cons p r ih =>
    intro u v hc hin huv
    obtain ⟨h1, h2⟩ := hin p (by simp)
    have h3 := hc.1
    rw [rng_split (memB (p :: r)) h1 (by omega : p.1 ≤ v), rng_split (memB (p :: r)) (by omega : p.1 ≤ p.2) h2]
    rw [rng_none (memB (p :: r)) (u := u) (v := p.1) (fun x hx1 hx2 => memB_before (fun q hq => by
      rcases List.mem_cons.1 hq with rfl | hq
      · exact hx2
      · have := hc.2.1 q hq; omega))]
    rw [rng_all (memB (p :: r)) (u := p.1) (v := p.2) (by omega) (fun x hx1 hx2 => by rw [memB_cons]; simp [hx1, hx2])]
    rw [rng_congr (memB (p :: r)) (memB r) (u := p.2) (v := v) (fun x hx1 hx2 => by
      rw [memB_cons]
      have : ¬ x < p.2 := by omega
      simp [this])]
    rw [ih p.2 v hc.2.2 (fun q hq => ⟨by have := hc.2.1 q hq; omega, (hin q (by simp [hq])).2⟩) h2, szs]
    omega

/-! ### The pieces between endpoints -/
/-- The k-th number of a list. -/
def zAt (E : List Int) (k : Nat) : Int := E.getD k 0
/-- Whether the last step that covers [a, b) adds, of the first k steps. -/
def inB (O : List Int) (N : List (Int × Int)) (a b : Int) : Nat → Bool
  | 0 => false
  | k + 1 => if lo N k ≤ a ∧ b ≤ hi N k then decide (opAt O k % 2 = 0) else inB O N a b k
/-- The sum over the first k pieces. -/
def pcs (O : List Int) (N : List (Int × Int)) (E : List Int) (n : Nat) : Nat → Int
  | 0 => 0
  | k + 1 => pcs O N E n k + (if inB O N (zAt E k) (zAt E (k + 1)) n then zAt E (k + 1) - zAt E k else 0)
/-- In order. -/
def Asc (E : List Int) : Prop := ∀ i j, i ≤ j → j < E.length → zAt E i ≤ zAt E j
theorem zAt_mem {E : List Int} {k : Nat} (h : k < E.length) : zAt E k ∈ E := by
  have e : zAt E k = E[k] := by simp [zAt, List.getD, h]
  rw [e]
  exact List.getElem_mem h
theorem mem_zAt {E : List Int} {x : Int} (h : x ∈ E) : ∃ k, k < E.length ∧ zAt E k = x := by
  obtain ⟨k, hk, rfl⟩ := List.getElem_of_mem h
  exact ⟨k, hk, by simp [zAt, List.getD, hk]⟩
/-- A number of E lies at or below the k-th, or at or above the next. -/
theorem asc_gap {E : List Int} (hE : Asc E) {k : Nat} (hk : k + 1 < E.length) {x : Int} (hx : x ∈ E) : x ≤ zAt E k ∨ zAt E (k + 1) ≤ x := by
  obtain ⟨j, hj, rfl⟩ := mem_zAt hx
  by_cases h : j ≤ k
  · exact .inl (hE j k h (by omega))
  · exact .inr (hE (k + 1) j (by omega) hj)
theorem inB_want (O : List Int) (N : List (Int × Int)) {E : List Int} (hE : Asc E) {k : Nat} (hk : k + 1 < E.length) {x : Int} (h1 : zAt E k ≤ x) (h2 : x < zAt E (k + 1)) :
    ∀ n, n ≤ N.length → (∀ j, j < N.length → lo N j ∈ E ∧ hi N j ∈ E) → want O N x n = inB O N (zAt E k) (zAt E (k + 1)) n
  | 0, _, _ => rfl
  | n + 1, hn, hall => by
    have ih := inB_want O N hE hk h1 h2 n (by omega) hall
    obtain ⟨m1, m2⟩ := hall n (by omega)
    rw [want, inB, ih]
    have g1 := asc_gap hE hk m1
    have g2 := asc_gap hE hk m2
    by_cases c : lo N n ≤ x ∧ x < hi N n
    · rw [if_pos c, if_pos (by omega)]
    · rw [if_neg c, if_neg (by omega)]
theorem pcs_rng (O : List Int) (N : List (Int × Int)) {E : List Int} (hE : Asc E) (hall : ∀ j, j < N.length → lo N j ∈ E ∧ hi N j ∈ E) :
    ∀ k, k < E.length → pcs O N E N.length k = rng (memB (bld O N N.length)) (zAt E 0) (zAt E k)
  | 0, _ => by
    rw [pcs, rng_none]
    intro x h1 h2
    omega
  | k + 1, hk => by
    have ih := pcs_rng O N hE hall k (by omega)
    have a1 := hE 0 k (by omega) (by omega)
    have a2 := hE k (k + 1) (by omega) hk
    rw [pcs, ih, rng_split (memB (bld O N N.length)) a1 a2]
    congr 1
    have hw : ∀ x, zAt E k ≤ x → x < zAt E (k + 1) → memB (bld O N N.length) x = inB O N (zAt E k) (zAt E (k + 1)) N.length := fun x h1 h2 => by
      rw [← want_eq]
      exact inB_want O N hE hk h1 h2 N.length (Nat.le_refl _) hall
    by_cases c : inB O N (zAt E k) (zAt E (k + 1)) N.length = true
    · rw [if_pos c]
      exact (rng_all _ a2 (fun x h1 h2 => (hw x h1 h2).trans c)).symm
    · rw [if_neg c]
      exact (rng_none _ (fun x h1 h2 => (hw x h1 h2).trans (by simpa using c))).symm
theorem want_cover (O : List Int) (N : List (Int × Int)) (x : Int) : ∀ n, want O N x n = true → ∃ j, j < n ∧ lo N j ≤ x ∧ x < hi N j
  | 0, h => by simp [want] at h
  | n + 1, h => by
    rw [want] at h
    by_cases c : lo N n ≤ x ∧ x < hi N n
    · exact ⟨n, by omega, c.1, c.2⟩
    · rw [if_neg c] at h
      obtain ⟨j, hj, h'⟩ := want_cover O N x n h
      exact ⟨j, by omega, h'⟩
/-- THE PIECES ADD UP TO THE SET's SIZE. -/
theorem pcs_szs (O : List Int) (N : List (Int × Int)) {E : List Int} (hE : Asc E) (hall : ∀ j, j < N.length → lo N j ∈ E ∧ hi N j ∈ E) : pcs O N E N.length (E.length - 1) = szs (bld O N N.length) := by
  have hC := bld_can O N N.length
  by_cases h0 : E.length = 0
  · have hN : N.length = 0 := by
      by_cases h : N.length = 0
      · exact h
      · have := (hall 0 (by omega)).1
        rw [List.eq_nil_of_length_eq_zero h0] at this
        cases this
    rw [hN, h0]
    rfl
  · rw [pcs_rng O N hE hall (E.length - 1) (by omega)]
    refine szs_rng _ _ _ hC (fun q hq => ?_) (hE 0 _ (by omega) (by omega))
    have hq1 := can_ne hC q hq
    have w1 : want O N q.1 N.length = true := (bld_mem O N q.1 N.length).1 ⟨q, hq, Int.le_refl _, hq1⟩
    have w2 : want O N (q.2 - 1) N.length = true := (bld_mem O N (q.2 - 1) N.length).1 ⟨q, hq, by omega, by omega⟩
    obtain ⟨i, hi', i1, i2⟩ := want_cover O N _ _ w1
    obtain ⟨j, hj, j1, j2⟩ := want_cover O N _ _ w2
    obtain ⟨a, ha, ea⟩ := mem_zAt (hall i hi').1
    obtain ⟨b, hb, eb⟩ := mem_zAt (hall j hj).2
    have := hE 0 a (by omega) ha
    have := hE b (E.length - 1) (by omega) (by omega)
    omega

/-! ### Both sums, modulo 2^64 -/
def cntL : List (Int × Int) → Int → Int
  | [], t => t
  | p :: r, t => cntL r (IntKind.u64.wrap (t + sizeS p.1 p.2))
theorem wrap_wrap_add (a b : Int) : IntKind.u64.wrap (IntKind.u64.wrap a + b) = IntKind.u64.wrap (a + b) := by
  rw [IntKind.wrap_u64, IntKind.wrap_u64, IntKind.wrap_u64]
  omega
theorem cntL_eq (l : List (Int × Int)) : ∀ t, Can l → cntL l (IntKind.u64.wrap t) = IntKind.u64.wrap (t + szs l) := by
  induction l with
  | nil => intro t _; simp [cntL, szs]
  | cons p r ih =>
    intro t hc
    have h1 := hc.1
    have e : sizeS p.1 p.2 = p.2 - p.1 := by unfold sizeS; rw [if_neg (by omega)]
    rw [cntL, wrap_wrap_add, ih _ hc.2.2, e, szs]
    congr 1
    omega
theorem cnt_step {l : List (Int × Int)} {j : Nat} {t r : Int} (h : j < l.length) (e : cntL (l.drop j) t = r) : cntL (l.drop (j + 1)) (IntKind.u64.wrap (t + sizeS (lo l j) (hi l j))) = r := by
  rw [← e, drop_cons l j h, cntL]
theorem cnt_end {l : List (Int × Int)} {j : Nat} {t r : Int} (h : ¬ j < l.length) (e : cntL (l.drop j) t = r) : r = t := by
  rw [← e, List.drop_of_length_le (by omega), cntL]
theorem piece_val {a b : Int} (hab : a ≤ b) (ha : I64 a) (hb : I64 b) : IntKind.u64.wrap (IntKind.u64.wrap b - IntKind.u64.wrap a) = b - a := by
  obtain ⟨_, _⟩ := ha
  obtain ⟨_, _⟩ := hb
  rw [IntKind.wrap_u64, IntKind.wrap_u64, IntKind.wrap_u64]
  omega

/-! ### Sorted, and runs struck -/
theorem compact_mem (zs : List Int) (x : Int) : x ∈ Lib.compact zs ↔ x ∈ zs := by
  unfold Lib.compact Lib.compactUpTo
  constructor
  · intro h
    obtain ⟨j, hj, rfl⟩ := List.mem_map.1 h
    have hj' : j < zs.length := by simpa using (List.mem_filter.1 hj).1
    simp [hj']
  · intro h
    obtain ⟨j, hj, rfl⟩ := List.getElem_of_mem h
    have : ∀ n (hn : n < zs.length), zs[n] ∈ ((List.range zs.length).filter (Lib.keeps zs.toArray)).map (zs.toArray[·]!) := by
      intro n
      induction n with
      | zero =>
        intro hn
        refine List.mem_map.2 ⟨0, List.mem_filter.2 ⟨by simpa using hn, by simp [Lib.keeps]⟩, by simp [hn]⟩
      | succ n ih =>
        intro hn
        by_cases hk : zs[n + 1] = zs[n]
        · rw [hk]
          exact ih (by omega)
        · refine List.mem_map.2 ⟨n + 1, List.mem_filter.2 ⟨by simpa using hn, ?_⟩, by simp [hn]⟩
          have hn' : n < zs.length := by omega
          simp [Lib.keeps, hn, hn', hk]
    exact this j hj
theorem asc_of_pairwise {E : List Int} (h : E.Pairwise (· ≤ ·)) : Asc E := by
  intro i j hij hj
  by_cases e : i = j
  · rw [e]; exact Int.le_refl _
  · have := List.pairwise_iff_getElem.1 h i j (by omega) hj (by omega)
    simpa [zAt, List.getD, hj, show i < E.length by omega] using this
theorem compact_asc {zs : List Int} (h : zs.Pairwise (· ≤ ·)) : Asc (Lib.compact zs) := by
  refine asc_of_pairwise ?_
  unfold Lib.compact Lib.compactUpTo
  have hr : ((List.range zs.length).filter (Lib.keeps zs.toArray)).Pairwise (· < ·) := List.Pairwise.filter _ List.pairwise_lt_range
  rw [List.pairwise_iff_getElem]
  intro i j hi' hj' hij
  simp only [List.length_map] at hi' hj'
  simp only [List.getElem_map]
  have hab := List.pairwise_iff_getElem.1 hr i j hi' hj' hij
  have hb := List.getElem_mem hj'
  generalize ((List.range zs.length).filter (Lib.keeps zs.toArray))[i]'hi' = a at *
  generalize ((List.range zs.length).filter (Lib.keeps zs.toArray))[j]'hj' = b at *
  have hb' : b < zs.length := by simpa using (List.mem_filter.1 hb).1
  have ha' : a < zs.length := by omega
  have := List.pairwise_iff_getElem.1 h a b ha' hb' hab
  simpa [ha', hb'] using this
theorem sort_ok (zs : List Int) : (∀ x, x ∈ Lib.compact (zs.mergeSort fun x y => decide (x ≤ y)) ↔ x ∈ zs) ∧ Asc (Lib.compact (zs.mergeSort fun x y => decide (x ≤ y))) := by
  constructor
  · intro x
    rw [compact_mem]
    exact (List.mergeSort_perm zs _).mem_iff
  · refine compact_asc ?_
    have := List.pairwise_mergeSort (le := fun x y : Int => decide (x ≤ y)) (fun a b c h1 h2 => by simp at h1 h2 ⊢; omega) (fun a b => by simp; omega) zs
    rw [List.pairwise_iff_getElem] at this ⊢
    intro i j hi' hj' hij
    simpa using this i j hi' hj' hij
end Go.Proofs.Ymwhap
