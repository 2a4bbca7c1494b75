/-
  The arguments opened: slices of structs of two and of three integers, as lists.
-/
import Derived.Test.YmwhapBase
import Derived.ProofKit
import Derived.Deep.SlicePairs
import Derived.Deep.Strs
namespace Go.Proofs.Ymwhap
open Go.RowKit Go.ChangeShapes Go.WideShapes

/-- A slice of structs of two integers in memory. -/
def Prs (k0 k1 : IntKind) (w : World) (a : Option Addr) (P : List (Int × Int)) : Prop :=
  ∀ k, k < P.length → ∃ b o, a = some ⟨b, o, none⟩ ∧ b < w.heap.size ∧ w.cell? ⟨b, o + k * 2, none⟩ = some (.int k0 (lo P k)) ∧ w.cell? ⟨b, o + k * 2 + 1, none⟩ = some (.int k1 (hi P k)) ∧ (Lit.int k0 (lo P k)).wf = true ∧ (Lit.int k1 (hi P k)).wf = true

theorem Prs.below {k0 k1 : IntKind} {w w' : World} {a : Option Addr} {P : List (Int × Int)} (h : Prs k0 k1 w a P) (hb : Below w.heap.size w w') : Prs k0 k1 w' a P := by
  intro k hk
  obtain ⟨b, o, e, h1, h2, h3, h4⟩ := h k hk
  exact ⟨b, o, e, Nat.lt_of_lt_of_le h1 hb.size, (hb.cell (p := ⟨b, o + k * 2, none⟩) h1).trans h2, (hb.cell (p := ⟨b, o + k * 2 + 1, none⟩) h1).trans h3, h4⟩

/-- The list of a function's values, and its places. -/
theorem ofFn_lo (n : Nat) (f g : Nat → Int) (k : Nat) (h : k < n) : lo ((List.range n).map fun i => (f i, g i)) k = f k ∧ hi ((List.range n).map fun i => (f i, g i)) k = g k := by
  simp [lo, hi, List.getD, h]

section
variable {H : Type} {enc : TypeId × Value → H} {P : Program} {w : World}

theorem open_prs {t e : TypeId} {f0 f1 : Field} {k0 k1 : IntKind} {fuel len cap : Nat} {a : Option Addr} {x : DataW H × List MemPlace} (ht : P.underlying t = some (.slice e)) (he : P.underlying e = some (.struct #[f0, f1]))
    (ce : P.cellsOf e = 2) (o0 : f0.offset = 0) (o1 : f1.offset = 1) (c0 : P.cellsOf f0.type = 1) (c1 : P.cellsOf f1.type = 1) (u0 : P.underlying f0.type = some (.int k0)) (u1 : P.underlying f1.type = some (.int k1))
    (h : DataW.trod enc P w 0 (fun _ => true) true fuel t [.slice a len cap] = some x) : ∃ L : List (Int × Int), L.length = len ∧ Prs k0 k1 w a L := by
  rcases Deep.open_slice_pairs ht he ce o0 o1 c0 c1 h with ⟨hcs, _⟩ | ⟨ad, l, c, m, n, V0, V1, D0, D1, P0, P1, hcs, _, hl, hm, hmm, _, hx⟩
  · simp at hcs
    obtain ⟨rfl, rfl, rfl⟩ := hcs
    exact ⟨[], rfl, fun k hk => by simp at hk⟩
  · simp only [List.cons.injEq, Value.slice.injEq, and_true] at hcs
    obtain ⟨rfl, rfl, rfl⟩ := hcs
    simp only [if_true] at hmm
    subst hmm
    have each : ∀ i, i < len → ∃ q : Int × Int, V0 i = .int k0 q.1 ∧ V1 i = .int k1 q.2 ∧ (Lit.int k0 q.1).wf = true ∧ (Lit.int k1 q.2).wf = true := by
      intro i hi
      obtain ⟨_, _, h2, h3⟩ := hx i (by omega)
      obtain ⟨n0, e0, _, w0⟩ := DataW.trod_int u0 h2
      obtain ⟨n1, e1, _, w1⟩ := DataW.trod_int u1 h3
      exact ⟨(n0, n1), by simpa using e0, by simpa using e1, w0, w1⟩
    obtain ⟨q, hq⟩ := Deep.choose_lt each
    refine ⟨(List.range len).map fun i => ((q i).1, (q i).2), by simp, fun k hk => ?_⟩
    have hk : k < len := by simpa using hk
    obtain ⟨h0, h1, _, _⟩ := hx k (by omega)
    obtain ⟨e0, e1, w0, w1⟩ := hq k hk
    obtain ⟨el, eh⟩ := ofFn_lo len (fun i => (q i).1) (fun i => (q i).2) k hk
    rw [el, eh]
    have hsp := World.cell?_spot (hx 0 (by omega)).1
    obtain ⟨b, o, sp⟩ := ad
    have hsp' : sp = none := by simpa [Addr.add] using hsp
    subst hsp'
    rw [add_plain] at h0 h1
    exact ⟨b, o, rfl, World.block_lt_of_cell? w _ h0, by rw [h0, e0], by rw [Nat.add_assoc, h1, e1], w0, w1⟩

end

/-- The k-th step's operation. -/
def opAt (O : List Int) (k : Nat) : Int := O.getD k 0

/-- A slice of structs of three integers in memory, as two lists: the bytes, the pairs. -/
def Stp (w : World) (a : Option Addr) (O : List Int) (P : List (Int × Int)) : Prop :=
  ∀ k, k < P.length → ∃ b o, a = some ⟨b, o, none⟩ ∧ b < w.heap.size ∧ w.cell? ⟨b, o + k * 3, none⟩ = some (.int .u8 (opAt O k)) ∧ w.cell? ⟨b, o + k * 3 + 1, none⟩ = some (.int .i64 (lo P k)) ∧ w.cell? ⟨b, o + k * 3 + 2, none⟩ = some (.int .i64 (hi P k)) ∧
    (Lit.int .u8 (opAt O k)).wf = true ∧ (Lit.int .i64 (lo P k)).wf = true ∧ (Lit.int .i64 (hi P k)).wf = true

theorem Stp.below {w w' : World} {a : Option Addr} {O : List Int} {P : List (Int × Int)} (h : Stp w a O P) (hb : Below w.heap.size w w') : Stp w' a O P := by
  intro k hk
  obtain ⟨b, o, e, h1, h2, h3, h4, h5⟩ := h k hk
  exact ⟨b, o, e, Nat.lt_of_lt_of_le h1 hb.size, (hb.cell (p := ⟨b, o + k * 3, none⟩) h1).trans h2, (hb.cell (p := ⟨b, o + k * 3 + 1, none⟩) h1).trans h3, (hb.cell (p := ⟨b, o + k * 3 + 2, none⟩) h1).trans h4, h5⟩

section
variable {H : Type} {enc : TypeId × Value → H} {P : Program} {w : World}

theorem open_stp {t e : TypeId} {f0 f1 f2 : Field} {fuel len cap : Nat} {a : Option Addr} {x : DataW H × List MemPlace} (ht : P.underlying t = some (.slice e)) (he : P.underlying e = some (.struct #[f0, f1, f2]))
    (ce : P.cellsOf e = 3) (o0 : f0.offset = 0) (o1 : f1.offset = 1) (o2 : f2.offset = 2) (c0 : P.cellsOf f0.type = 1) (c1 : P.cellsOf f1.type = 1) (c2 : P.cellsOf f2.type = 1)
    (u0 : P.underlying f0.type = some (.int .u8)) (u1 : P.underlying f1.type = some (.int .i64)) (u2 : P.underlying f2.type = some (.int .i64))
    (h : DataW.trod enc P w 0 (fun _ => true) true fuel t [.slice a len cap] = some x) : ∃ (O : List Int) (L : List (Int × Int)), O.length = len ∧ L.length = len ∧ Stp w a O L := by
  rcases Deep.open_slice ht h with ⟨hcs, _⟩ | ⟨ad, l, c, m, n, D, Pl, hcs, _, hl, hm, hmm, _, hx⟩
  · simp at hcs
    obtain ⟨rfl, rfl, rfl⟩ := hcs
    exact ⟨[], [], rfl, rfl, fun k hk => by simp at hk⟩
  · simp only [List.cons.injEq, Value.slice.injEq, and_true] at hcs
    obtain ⟨rfl, rfl, rfl⟩ := hcs
    simp only [if_true] at hmm
    subst hmm
    have each : ∀ i, i < len → ∃ q : Int × Int × Int, w.cell? (ad.add (i * 3)) = some (.int .u8 q.1) ∧ w.cell? (ad.add (i * 3 + 1)) = some (.int .i64 q.2.1) ∧ w.cell? (ad.add (i * 3 + 2)) = some (.int .i64 q.2.2) ∧
        (Lit.int .u8 q.1).wf = true ∧ (Lit.int .i64 q.2.1).wf = true ∧ (Lit.int .i64 q.2.2).wf = true := by
      intro i hi
      obtain ⟨cs', h1, h2⟩ := hx i (by omega)
      rw [ce] at h1
      obtain ⟨_, hlen, hcell⟩ := World.cells?_some h1
      obtain ⟨y0, y1, y2, n', _, _, g0, g1, g2⟩ := Deep.trod_struct3 he h2
      match cs', hlen with
      | [v0, v1, v2], _ =>
        simp [o0, o1, o2, c0, c1, c2] at g0 g1 g2
        obtain ⟨n0, e0, _, w0⟩ := DataW.trod_int u0 g0
        obtain ⟨n1, e1, _, w1⟩ := DataW.trod_int u1 g1
        obtain ⟨n2, e2, _, w2⟩ := DataW.trod_int u2 g2
        simp at e0 e1 e2
        subst e0 e1 e2
        have d0 := hcell 0 (by omega)
        have d1 := hcell 1 (by omega)
        have d2 := hcell 2 (by omega)
        rw [Deep.add_add] at d0 d1 d2
        exact ⟨(n0, n1, n2), by simpa using d0, by simpa using d1, by simpa using d2, w0, w1, w2⟩
    obtain ⟨q, hq⟩ := Deep.choose_lt each
    refine ⟨(List.range len).map fun i => (q i).1, (List.range len).map fun i => ((q i).2.1, (q i).2.2), by simp, by simp, fun k hk => ?_⟩
    have hk : k < len := by simpa using hk
    obtain ⟨h0, h1, h2, w0, w1, w2⟩ := hq k hk
    obtain ⟨el, eh⟩ := ofFn_lo len (fun i => (q i).2.1) (fun i => (q i).2.2) k hk
    have eo : opAt ((List.range len).map fun i => (q i).1) k = (q k).1 := by simp [opAt, List.getD, hk]
    rw [el, eh, eo]
    have hsp := World.cell?_spot (hq 0 (by omega)).1
    obtain ⟨b, o, sp⟩ := ad
    have hsp' : sp = none := by simpa [Addr.add] using hsp
    subst hsp'
    rw [add_plain] at h0 h1 h2
    exact ⟨b, o, rfl, World.block_lt_of_cell? w _ h0, h0, by rw [Nat.add_assoc]; exact h1, by rw [Nat.add_assoc]; exact h2, w0, w1, w2⟩
end
end Go.Proofs.Ymwhap
