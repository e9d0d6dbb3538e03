import Derived.Test.YmwhbdPeel
namespace Go.Proofs.Ymwhbd
open Go.RowKit
set_option linter.unusedSimpArgs false
set_option linter.unusedVariables false

/-- A block of n cells, entry i holding f i. -/
def ArrIn (w : World) (b : Nat) (t : TypeId) (n : Nat) (f : Nat → Value) : Prop := w.heap[b]? = some (.cells (tab n f).toArray t (0, 0))
theorem ArrIn.cell {w : World} {b : Nat} {t : TypeId} {n : Nat} {f : Nat → Value} (h : ArrIn w b t n f) (i : Nat) (hi : i < n) : w.cell? ⟨b, i, none⟩ = some (f i) := by
  rw [cell_of_row w b i _ t (0, 0) h]; simp [tab_get n f i hi]
theorem ArrIn.free {w : World} {b : Nat} {t : TypeId} {n : Nat} {f : Nat → Value} (h : ArrIn w b t n f) (i : Nat) : w.frozen? ⟨b, i, none⟩ = false := frozen_of_row w b i _ t h
theorem ArrIn.lt {w : World} {b : Nat} {t : TypeId} {n : Nat} {f : Nat → Value} (h : ArrIn w b t n f) : b < w.heap.size := lt_of_block h
theorem ArrIn.set {w : World} {b : Nat} {t : TypeId} {n : Nat} {f : Nat → Value} (h : ArrIn w b t n f) (u : Nat) (x : Value) {f' : Nat → Value} (hf : ∀ i, i < n → f' i = if i = u then x else f i) : ArrIn (w.setCell ⟨b, u, none⟩ x) b t n f' := by
  unfold ArrIn at *
  rw [heap_setCell_same w b u _ t x h, tab_congr n f' _ hf, ← tab_set]
  simp
theorem ArrIn.setOther {w : World} {b c : Nat} {t : TypeId} {n : Nat} {f : Nat → Value} (h : ArrIn w b t n f) (hbc : b ≠ c) (o : Nat) (x : Value) : ArrIn (w.setCell ⟨c, o, none⟩ x) b t n f := by
  unfold ArrIn at *
  rw [Below.heap_setCell _ _ _ _ hbc]; exact h
theorem ArrIn.alloc {w : World} {b : Nat} {t : TypeId} {n : Nat} {f : Nat → Value} (h : ArrIn w b t n f) (o : Obj) : ArrIn (w.alloc o) b t n f := by
  unfold ArrIn at *
  rw [Below.heap_alloc _ _ _ (lt_of_block h)]; exact h
theorem ArrIn.below {w w' : World} {b : Nat} {t : TypeId} {n : Nat} {f : Nat → Value} (h : ArrIn w b t n f) {B : Nat} (hb : Below B w w') (hB : b < B) : ArrIn w' b t n f := (hb.block b hB).trans h
theorem ArrIn.below' {w w' : World} {b : Nat} {t : TypeId} {n : Nat} {f : Nat → Value} (h : ArrIn w b t n f) (hb : Below w.heap.size w w') : ArrIn w' b t n f := h.below hb h.lt
theorem ArrIn.kept {w w' : World} {b : Nat} {t : TypeId} {n : Nat} {f : Nat → Value} {r : Option Nat} (h : ArrIn w b t n f) (hg : w.grownBy w' r) (hr : some b ≠ r) : ArrIn w' b t n f := (hg.block b h.lt hr).trans h

end Go.Proofs.Ymwhbd
