import Derived.Test.YmwhbdRows
import Derived.WalkKit
import Derived.ProofKit
import Derived.OpenShut
import Derived.ChangeOld
import Derived.Below
import Derived.Deep.SlicePairs
namespace Go.Proofs.Ymwhbd
open Go.ChangeShapes Go.WideShapes Go.ChangeAt Go.RowKit Go.Deep
set_option linter.unusedSimpArgs false
set_option linter.unusedVariables false

theorem Ybdv.own : ownKnob Ybdv.prog.godebug = none := by kernel_rfl
theorem Ybdv.laidOut : laidOutB Ybdv.prog = true := by kernel_rfl

/-- What a walk asks of a slice of two-field structs of integers that came in. -/
def RawIn (W : World) (k : IntKind) (ao : Option Addr) (ps : List (Int × Int)) : Prop :=
  ∀ i (hi : i < ps.length), ∃ b off, ao = some ⟨b, off, none⟩ ∧ b < W.heap.size ∧ W.cell? ⟨b, off + i * 2, none⟩ = some (.int k ps[i].1) ∧ W.cell? ⟨b, off + i * 2 + 1, none⟩ = some (.int k ps[i].2)

theorem open_raw2 {H : Type} {enc : TypeId × Value → H} {P : Program} {W : World} {t e fuel : Nat} {f0 f1 : Field} {k : IntKind} {ao : Option Addr} {len cap : Nat} {x : DataW H × List MemPlace}
    (ht : P.underlying t = some (.slice e)) (he : P.underlying e = some (.struct #[f0, f1])) (ce : P.cellsOf e = 2) (o0 : f0.offset = 0) (o1 : f1.offset = 1)
    (c0 : P.cellsOf f0.type = 1) (c1 : P.cellsOf f1.type = 1) (u0 : P.underlying f0.type = some (.int k)) (u1 : P.underlying f1.type = some (.int k))
    (h : DataW.trod enc P W 0 (fun _ => true) true fuel t [.slice ao len cap] = some x) :
    ∃ ps : List (Int × Int), ps.length = len ∧ (∀ p ∈ ps, (Lit.int k p.1).wf = true ∧ (Lit.int k p.2).wf = true) ∧ RawIn W k ao ps := by
  rcases open_slice_pairs ht he ce o0 o1 c0 c1 h with ⟨hcs, _⟩ | ⟨a, l, c, m, n, V0, V1, D0, D1, P0, P1, hcs, _, hl, hm, hmm, hx, hcell⟩
  · simp at hcs
    obtain ⟨rfl, rfl, rfl⟩ := hcs
    exact ⟨[], rfl, by simp, fun i hi => by simp at hi⟩
  · simp at hcs
    obtain ⟨rfl, rfl, rfl⟩ := hcs
    have hm' : m = cap := by simpa using hmm
    subst hm'
    obtain ⟨f, hf⟩ := choose_lt (n := len) (p := fun i (q : Int × Int) => W.cell? (a.add (i * 2)) = some (.int k q.1) ∧ W.cell? (a.add (i * 2 + 1)) = some (.int k q.2) ∧ (Lit.int k q.1).wf = true ∧ (Lit.int k q.2).wf = true) (by
      intro i hi
      obtain ⟨hc0, hc1, ht0, ht1⟩ := hcell i (by omega)
      obtain ⟨n0, e0, _, w0⟩ := DataW.trod_int u0 ht0
      obtain ⟨n1, e1, _, w1⟩ := DataW.trod_int u1 ht1
      simp at e0 e1
      exact ⟨(n0, n1), by rw [hc0, e0], by rw [hc1, e1], w0, w1⟩)
    refine ⟨(List.range len).map f, by simp, ?_, ?_⟩
    · intro p hp
      obtain ⟨i, hi, rfl⟩ := List.mem_map.1 hp
      exact ⟨(hf i (by simpa using hi)).2.2.1, (hf i (by simpa using hi)).2.2.2⟩
    · intro i hi
      have hi' : i < len := by simpa using hi
      obtain ⟨h0, h1, _⟩ := hf i hi'
      obtain ⟨b, off, spot⟩ := a
      have hspot : spot = none := by
        obtain ⟨g0, _⟩ := hf 0 (by omega)
        have := World.cell?_spot g0
        simpa [Addr.add] using this
      subst hspot
      rw [Addr.add_lit] at h0 h1
      refine ⟨b, off, rfl, World.block_lt_of_cell? W _ h0, ?_, ?_⟩
      · simpa using h0
      · rw [Nat.add_assoc]; simpa using h1

end Go.Proofs.Ymwhbd
