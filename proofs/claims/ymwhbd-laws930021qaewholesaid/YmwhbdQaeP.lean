import Derived.Test.YmwhbdCyc
import Derived.Test.YmwhbdZ
import Derived.Test.YmwhbdOpen
import Derived.Deep.DeepCutAuto
import Derived.Deep.LoopGhost
namespace Go.Proofs.Ymwhbd
open Go.RowKit
set_option linter.unusedSimpArgs false
set_option linter.unusedVariables false

/-- What a walk asks of a slice of integers that came in. -/
def RawInts (W : World) (k : IntKind) (ao : Option Addr) (rs : List Int) : Prop :=
  ∀ i (hi : i < rs.length), ∃ b off, ao = some ⟨b, off, none⟩ ∧ b < W.heap.size ∧ W.cell? ⟨b, off + i, none⟩ = some (.int k rs[i])

/-- The graph's edges G and the matrix f say the same. -/
structure QaeIn (W wr : World) (gb A n : Nat) (ev : Value) (G : List (Int × Int)) (f : Nat → Bool) : Prop where
  hg : wr.heap[gb]? = some (.cells #[.int .i64 (n : Int), ev] 31 (0, 0))
  hE : EsIn W.heap.size wr ev G
  hs : SortedE G
  hA : ArrIn wr A 55 81 (fun i => .bool (f i))
  hf : ∀ u v : Nat, u < n → v < n → (((u : Int), (v : Int)) ∈ G ↔ f (u * 9 + v) = true)
  hin : ∀ e ∈ G, inR (n : Int) e.1 e.2 = true
  hb : Below W.heap.size W wr
def QaeSt (W wr : World) (gb A n K : Nat) : Prop := ∃ ev G f, QaeIn W wr gb A n ev G f ∧ G.length ≤ K

theorem QaeIn.below {W wr w' : World} {gb A n : Nat} {ev : Value} {G : List (Int × Int)} {f : Nat → Bool} (h : QaeIn W wr gb A n ev G f) (hb : Below wr.heap.size wr w') : QaeIn W w' gb A n ev G f :=
  ⟨(hb.block gb (lt_of_block h.hg)).trans h.hg, h.hE.below' hb, h.hs, h.hA.below' hb, h.hf, h.hin, h.hb.trans (hb.mono h.hb.size)⟩

theorem QaeIn.belowB {W wr w' : World} {gb A n C : Nat} {ev : Value} {G : List (Int × Int)} {f : Nat → Bool} (h : QaeIn W wr gb A n ev G f) (hb : Below C wr w') (hg : gb < C) (hA : A < C) (he : ∀ k, ev.ownBlock = some k → k < C) (hC : W.heap.size ≤ C) : QaeIn W w' gb A n ev G f :=
  ⟨(hb.block gb hg).trans h.hg, h.hE.below hb he, h.hs, h.hA.below hb hA, h.hf, h.hin, h.hb.trans (hb.mono hC)⟩

theorem QaeIn.drewN {W wr : World} {gb A n : Nat} {ev : Value} {G : List (Int × Int)} {f : Nat → Bool} (h : QaeIn W wr gb A n ev G f) (m : Nat) : QaeIn W (wr.drewN m) gb A n ev G f :=
  ⟨h.hg, h.hE, h.hs, h.hA, h.hf, h.hin, below_drewN h.hb _⟩

theorem pair_inj {u v a b : Nat} (hv : v < 9) (hb : b < 9) (h : u * 9 + v = a * 9 + b) : u = a ∧ v = b := by omega

theorem qae_add {W W1 w2 : World} {gb A n K a b : Nat} {ev ev' : Value} {G : List (Int × Int)} {f : Nat → Bool} (h : QaeIn W W1 gb A n ev G f) (hn : n ≤ 9) (ha : a < n) (hb : b < n) (hAg : A ≠ gb) (hWg : W.heap.size ≤ gb) (hWA : W.heap.size ≤ A)
    (hG2 : W1.grownBy w2 (some gb)) (hg2 : w2.heap[gb]? = some (.cells #[.int .i64 (n : Int), ev'] 31 (0, 0))) (hE2 : EsIn W.heap.size w2 ev' (addE (n : Int) G (a : Int) (b : Int))) (hK : G.length ≤ K) :
    QaeSt W (w2.setCell ⟨A, a * 9 + b, none⟩ (.bool true)) gb A n (K + 1) := by
  have hir : inR (n : Int) (a : Int) (b : Int) = true := by simp [inR]; omega
  have eI : addE (n : Int) G (a : Int) (b : Int) = insE G ((a : Int), (b : Int)) := by unfold addE; rw [if_pos hir]
  rw [eI] at hE2
  have hA2 := h.hA.kept hG2 (by simp; omega)
  have hne : ev'.ownBlock ≠ some A := by
    intro he
    rcases hE2.2 with ⟨rfl, _⟩ | ⟨g, cap, cur, rfl, _, hgg, _⟩
    · simp [Value.ownBlock] at he
    · simp [Value.ownBlock] at he
      subst he
      have := hA2
      unfold ArrIn at this
      rw [hgg] at this
      simp at this
  refine ⟨ev', insE G ((a : Int), (b : Int)), fun i => if i = a * 9 + b then true else f i, ⟨?_, ownsRow_setCell_other hE2 (by simpa using hne) _, h.hs.ins _, hA2.set _ _ ?_, ?_, ?_, ?_⟩, ?_⟩
  · rw [Below.heap_setCell _ _ _ _ (by simpa using fun e => hAg e.symm)]; exact hg2
  · intro i hi; split <;> rfl
  · intro u v hu hv
    rw [mem_insE]
    by_cases huv : u = a ∧ v = b
    · obtain ⟨rfl, rfl⟩ := huv; simp
    · have h1 : ¬ (u * 9 + v = a * 9 + b) := fun e => huv (pair_inj (by omega) (by omega) e)
      rw [if_neg h1, ← h.hf u v hu hv]
      constructor
      · rintro (e | e)
        · exact absurd (by simp at e; exact ⟨by omega, by omega⟩) huv
        · exact e
      · exact .inr
  · intro e he
    rw [mem_insE] at he
    rcases he with rfl | he
    · exact hir
    · exact h.hin e he
  · exact (h.hb.grown hG2 h.hb.size (by simp; omega)).setCell (by simpa using hWA) _
  · have := insE_length G ((a : Int), (b : Int)); omega

theorem qae_rem {W W1 w2 : World} {gb A n K a b : Nat} {ev ev' : Value} {G : List (Int × Int)} {f : Nat → Bool} (h : QaeIn W W1 gb A n ev G f) (hn : n ≤ 9) (ha : a < n) (hb : b < n) (hAg : A ≠ gb) (hWg : W.heap.size ≤ gb) (hWA : W.heap.size ≤ A)
    (hG2 : W1.grownBy w2 (some gb)) (hg2 : w2.heap[gb]? = some (.cells #[.int .i64 (n : Int), ev'] 31 (0, 0))) (hE2 : EsIn W.heap.size w2 ev' (delE G ((a : Int), (b : Int)))) (hK : G.length ≤ K) :
    QaeSt W (w2.setCell ⟨A, a * 9 + b, none⟩ (.bool false)) gb A n (K + 1) := by
  have hA2 := h.hA.kept hG2 (by simp; omega)
  have hne : ev'.ownBlock ≠ some A := by
    intro he
    rcases hE2.2 with ⟨rfl, _⟩ | ⟨g, cap, cur, rfl, _, hgg, _⟩
    · simp [Value.ownBlock] at he
    · simp [Value.ownBlock] at he
      subst he
      have := hA2
      unfold ArrIn at this
      rw [hgg] at this
      simp at this
  refine ⟨ev', delE G ((a : Int), (b : Int)), fun i => if i = a * 9 + b then false else f i, ⟨?_, ownsRow_setCell_other hE2 (by simpa using hne) _, h.hs.del _, hA2.set _ _ ?_, ?_, ?_, ?_⟩, ?_⟩
  · rw [Below.heap_setCell _ _ _ _ (by simpa using fun e => hAg e.symm)]; exact hg2
  · intro i hi; split <;> rfl
  · intro u v hu hv
    rw [mem_delE h.hs]
    by_cases huv : u = a ∧ v = b
    · obtain ⟨rfl, rfl⟩ := huv; simp
    · have h1 : ¬ (u * 9 + v = a * 9 + b) := fun e => huv (pair_inj (by omega) (by omega) e)
      rw [if_neg h1, ← h.hf u v hu hv]
      constructor
      · exact fun e => e.2
      · exact fun e => ⟨fun e' => huv (by simp at e'; exact ⟨by omega, by omega⟩), e⟩
  · intro e he
    exact h.hin e ((mem_delE h.hs _ _).1 he).2
  · exact (h.hb.grown hG2 h.hb.size (by simp; omega)).setCell (by simpa using hWA) _
  · have := delE_length G ((a : Int), (b : Int)); omega

theorem qae_same {G : List (Int × Int)} {n : Nat} {f : Nat → Bool} (hs : SortedE G) (hf : ∀ u v : Nat, u < n → v < n → (((u : Int), (v : Int)) ∈ G ↔ f (u * 9 + v) = true)) (hin : ∀ e ∈ G, inR (n : Int) e.1 e.2 = true) (v w : Int) :
    hasE G (v, w) = adjP n f v w := by
  rw [Bool.eq_iff_iff, hasE_iff hs]
  unfold adjP
  by_cases hr : inR (n : Int) v w = true
  · obtain ⟨a, b, hab, ha, hb⟩ := in_range (e := (v, w)) hr
    simp only [Prod.mk.injEq] at hab
    obtain ⟨rfl, rfl⟩ := hab
    rw [hf a b ha hb, hr]; simp
  · simp only [hr]
    constructor
    · intro h'; exact absurd (hin _ h') hr
    · intro h'; simp at h'

end Go.Proofs.Ymwhbd
