import Derived.Test.YmwhbdOpen
import Derived.Deep.Strs
namespace Go.Proofs.Ymwhbd
open Go.ChangeShapes Go.WideShapes Go.ChangeAt Go.RowKit Go.Deep
set_option linter.unusedSimpArgs false
set_option linter.unusedVariables false

/-- What a walk asks of a slice of three-field structs of integers that came in. -/
def RawIn3 (W : World) (k : IntKind) (ao : Option Addr) (ps : List (Int × Int × Int)) : Prop :=
  ∀ i (hi : i < ps.length), ∃ b off, ao = some ⟨b, off, none⟩ ∧ b < W.heap.size ∧ W.cell? ⟨b, off + i * 3, none⟩ = some (.int k ps[i].1) ∧ W.cell? ⟨b, off + i * 3 + 1, none⟩ = some (.int k ps[i].2.1) ∧ W.cell? ⟨b, off + i * 3 + 2, none⟩ = some (.int k ps[i].2.2)

theorem open_raw3 {H : Type} {enc : TypeId × Value → H} {P : Program} {W : World} {t e fuel : Nat} {f0 f1 f2 : Field} {k : IntKind} {ao : Option Addr} {len cap : Nat} {x : DataW H × List MemPlace}
    (ht : P.underlying t = some (.slice e)) (he : P.underlying e = some (.struct #[f0, f1, f2])) (ce : P.cellsOf e = 3) (o0 : f0.offset = 0) (o1 : f1.offset = 1) (o2 : f2.offset = 2)
    (c0 : P.cellsOf f0.type = 1) (c1 : P.cellsOf f1.type = 1) (c2 : P.cellsOf f2.type = 1) (u0 : P.underlying f0.type = some (.int k)) (u1 : P.underlying f1.type = some (.int k)) (u2 : P.underlying f2.type = some (.int k))
    (h : DataW.trod enc P W 0 (fun _ => true) true fuel t [.slice ao len cap] = some x) :
    ∃ ps : List (Int × Int × Int), ps.length = len ∧ (∀ p ∈ ps, (Lit.int k p.1).wf = true ∧ (Lit.int k p.2.1).wf = true ∧ (Lit.int k p.2.2).wf = true) ∧ RawIn3 W k ao ps := by
  rcases open_slice ht h with ⟨hcs, _⟩ | ⟨a, l, c, m, n, D, Pl, hcs, _, hl, hm, hmm, hx, hcell⟩
  · simp at hcs
    obtain ⟨rfl, rfl, rfl⟩ := hcs
    exact ⟨[], rfl, by simp, fun i hi => by simp at hi⟩
  · simp at hcs
    obtain ⟨rfl, rfl, rfl⟩ := hcs
    have hm' : m = cap := by simpa using hmm
    subst hm'
    obtain ⟨f, hf⟩ := choose_lt (n := len) (p := fun i (q : Int × Int × Int) => W.cell? (a.add (i * 3)) = some (.int k q.1) ∧ W.cell? (a.add (i * 3 + 1)) = some (.int k q.2.1) ∧ W.cell? (a.add (i * 3 + 2)) = some (.int k q.2.2) ∧ (Lit.int k q.1).wf = true ∧ (Lit.int k q.2.1).wf = true ∧ (Lit.int k q.2.2).wf = true) (by
      intro i hi
      obtain ⟨cs', h1, h2⟩ := hcell i (by omega)
      rw [ce] at h1
      obtain ⟨_, hlen, hc⟩ := World.cells?_some h1
      obtain ⟨y0, y1, y2, n', _, _, t0, t1, t2⟩ := trod_struct3 he h2
      match cs', hlen with
      | [v0, v1, v2], _ =>
        simp [o0, o1, o2, c0, c1, c2] at t0 t1 t2
        obtain ⟨n0, e0, _, w0⟩ := DataW.trod_int u0 t0
        obtain ⟨n1, e1, _, w1⟩ := DataW.trod_int u1 t1
        obtain ⟨n2, e2, _, w2⟩ := DataW.trod_int u2 t2
        simp at e0 e1 e2
        subst e0 e1 e2
        have g0 := hc 0 (by omega)
        have g1 := hc 1 (by omega)
        have g2 := hc 2 (by omega)
        rw [add_add] at g0 g1 g2
        exact ⟨(n0, n1, n2), by simpa using g0, by simpa using g1, by simpa using g2, w0, w1, w2⟩)
    refine ⟨(List.range len).map f, by simp, ?_, ?_⟩
    · intro p hp
      obtain ⟨i, hi, rfl⟩ := List.mem_map.1 hp
      exact (hf i (by simpa using hi)).2.2.2
    · intro i hi
      have hi' : i < len := by simpa using hi
      obtain ⟨h0, h1, h2, _⟩ := hf i hi'
      obtain ⟨b, off, spot⟩ := a
      have hspot : spot = none := by
        obtain ⟨g0, _⟩ := hf 0 (by omega)
        have := World.cell?_spot g0
        simpa [Addr.add] using this
      subst hspot
      rw [Addr.add_lit] at h0 h1 h2
      refine ⟨b, off, rfl, World.block_lt_of_cell? W _ h0, ?_, ?_, ?_⟩
      · simpa using h0
      · rw [Nat.add_assoc]; simpa using h1
      · rw [Nat.add_assoc]; simpa using h2

end Go.Proofs.Ymwhbd
