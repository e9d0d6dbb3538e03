import Derived.Test.YmwhbdB
namespace Go.Proofs.Ymwhbd
open Go.RowKit
set_option linter.unusedSimpArgs false
set_option linter.unusedVariables false

def inR (n u x : Int) : Bool := decide (0 ≤ u ∧ u < n ∧ 0 ≤ x ∧ x < n)
def addE (n : Int) (es : List (Int × Int)) (u x : Int) : List (Int × Int) := if inR n u x then insE es (u, x) else es
def addCode (n : Int) (es : List (Int × Int)) (u x : Int) : Int := if inR n u x then (if hasE es (u, x) then 1 else 0) else 2

theorem gr_cell0 {w : World} {b : Nat} {x y : Value} {t : TypeId} (h : w.heap[b]? = some (.cells #[x, y] t (0, 0))) : w.cell? ⟨b, 0, none⟩ = some x := by simp [World.cell?, h]
theorem gr_cell1 {w : World} {b : Nat} {x y : Value} {t : TypeId} (h : w.heap[b]? = some (.cells #[x, y] t (0, 0))) : w.cell? ⟨b, 1, none⟩ = some y := by simp [World.cell?, h]
theorem gr_free {w : World} {b o : Nat} {c : Array Value} {t : TypeId} (h : w.heap[b]? = some (.cells c t (0, 0))) : w.frozen? ⟨b, o, none⟩ = false := by simp [World.frozen?, h]

theorem Ybdv.info28 : (Ybdv.prog.info? 28).map (fun i => (i.zero, i.size, i.bytes)) = some (some (.agg #[.int .i64 0, .int .i64 0]), 2, 16) := by kernel_rfl

theorem grow_trans {w w1 w2 : World} {r r' : Option Nat} (h : w.grownBy w1 r) (k : w1.grownBy w2 r') (hr : ∀ i, r' = some i → r = some i ∨ w.heap.size ≤ i) : w.grownBy w2 r :=
  ⟨k.os.trans h.os, k.tape.trans h.tape, k.output.trans h.output, Nat.le_trans h.size k.size, fun i hi hne => by
    rw [k.block i (Nat.lt_of_lt_of_le hi h.size) (fun e => by rcases hr i e.symm with h' | h'; exact hne h'.symm; omega)]; exact h.block i hi hne⟩
theorem grow_below {w w' : World} (h : Below w.heap.size w w') (r : Option Nat) : w.grownBy w' r := ⟨h.os, h.tape, h.output, h.size, fun k hk _ => h.block k hk⟩
theorem below_grow {w w' : World} (h : w.grownBy w' none) : Below w.heap.size w w' := ⟨h.os, h.tape, h.output, h.size, fun k hk => h.block k hk (by simp)⟩
theorem grow_drewN {w w1 : World} {r : Option Nat} (h : w.grownBy w1 r) (q : Nat) : w.grownBy (w1.drewN q) r := ⟨h.os, h.tape, h.output, h.size, h.block⟩
theorem grow_setCell (w : World) (b o : Nat) (u : Value) : w.grownBy (w.setCell ⟨b, o, none⟩ u) (some b) :=
  ⟨rfl, rfl, rfl, by simp, fun k _ hk => heap_setCell_other w ⟨b, o, none⟩ k u (fun e => hk (by simp [e]))⟩
theorem gr_set1 {w : World} {b : Nat} {x y u : Value} {t : TypeId} (h : w.heap[b]? = some (.cells #[x, y] t (0, 0))) : (w.setCell ⟨b, 1, none⟩ u).heap[b]? = some (.cells #[x, u] t (0, 0)) := by
  rw [heap_setCell_same w b 1 _ t u h]; rfl
theorem gr_set0 {w : World} {b : Nat} {x y u : Value} {t : TypeId} (h : w.heap[b]? = some (.cells #[x, y] t (0, 0))) : (w.setCell ⟨b, 0, none⟩ u).heap[b]? = some (.cells #[u, y] t (0, 0)) := by
  rw [heap_setCell_same w b 0 _ t u h]; rfl
theorem EsIn.kept {base : Nat} {w w' : World} {v : Value} {es : List (Int × Int)} {row : Option Nat} (h : EsIn base w v es) (hg : w.grownBy w' row) (hne : v.ownBlock = none ∨ v.ownBlock ≠ row) : EsIn base w' v es := World.ownsRow.kept h hg hne
theorem EsIn.keptLo {base b : Nat} {w w' : World} {v : Value} {es : List (Int × Int)} (h : EsIn base w v es) (hg : w.grownBy w' (some b)) (hb : b < base) : EsIn base w' v es :=
  h.kept hg (.inr fun e => by have := (World.ownsRow.lt h _ e).1; omega)
theorem EsIn.cellsAt {base : Nat} {w : World} {g n cap : Nat} {es : List (Int × Int)} (h : EsIn base w (.slice (some ⟨g, 0, none⟩) n cap) es) (k : Nat) : ∀ j u, (flatE (es.drop k))[j]? = some u → w.cell? ⟨g, k * 2 + j, none⟩ = some u := by
  intro j u hj
  rw [flatE_drop, List.getElem?_drop] at hj
  have hn : es.length = n := by
    rcases h.2 with ⟨h', _⟩ | ⟨g', cap', cur, h', _⟩
    · simp at h'
    · simp at h'; exact h'.2.1.symm
  have hlt := (List.getElem?_eq_some_iff.1 hj).1
  rw [flatE_length] at hlt
  subst hn
  rw [World.ownsRow.cellAt h _ (by omega)]; exact hj

set_option maxHeartbeats 400000 in
theorem add_out (n : Int) (gb : Nat) (v : Value) (u x : Int) (w : World) (hg : w.heap[gb]? = some (.cells #[.int .i64 n, v] 31 (0, 0))) (ho : u < 0 ∨ n ≤ u ∨ x < 0 ∨ n ≤ x) :
    Calls Ybdv.prog 15 #[.pointer (some ⟨gb, 0, none⟩), .int .i64 u, .int .i64 x] w fun e w' => e = .returned (.int .i64 2) ∧ w' = w := by
  have c0 := gr_cell0 hg
  clear hg
  by_cases h1 : u < 0
  · go_enter Ybdv.func15, Ybdv.ntmps15
    go_wp2
    go_ret
    exact ⟨rfl, rfl⟩
  by_cases h2 : n ≤ u
  · go_enter Ybdv.func15, Ybdv.ntmps15
    go_wp2
    go_ret
    exact ⟨rfl, rfl⟩
  by_cases h3 : x < 0
  · go_enter Ybdv.func15, Ybdv.ntmps15
    go_wp2
    go_ret
    exact ⟨rfl, rfl⟩
  have h4 : n ≤ x := by omega
  go_enter Ybdv.func15, Ybdv.ntmps15
  go_wp2
  go_ret
  exact ⟨rfl, rfl⟩

set_option maxHeartbeats 400000 in
theorem add_has {base : Nat} {es : List (Int × Int)} (hs : SortedE es) (hlen : es.length ≤ 1000000) (n : Int) (gb : Nat) (v : Value) (u x : Int) (w : World)
    (hg : w.heap[gb]? = some (.cells #[.int .i64 n, v] 31 (0, 0))) (h : EsIn base w v es)
    (h1 : 0 ≤ u) (h2 : u < n) (h3 : 0 ≤ x) (h4 : x < n) (hh : hasE es (u, x) = true) :
    Calls Ybdv.prog 15 #[.pointer (some ⟨gb, 0, none⟩), .int .i64 u, .int .i64 x] w fun e w' => e = .returned (.int .i64 1) ∧ Below w.heap.size w w' := by
  have c0 := gr_cell0 hg
  have c1 := gr_cell1 hg
  have z1 : gb < w.heap.size := lt_of_block hg
  obtain ⟨ao, le, cap, rfl⟩ : ∃ ao le cap, v = .slice ao le cap := by
    rcases h.view with ⟨rfl, _⟩ | ⟨g, cap, rfl, _⟩
    · exact ⟨_, _, _, rfl⟩
    · exact ⟨_, _, _, rfl⟩
  go_enter Ybdv.func15, Ybdv.ntmps15
  go_wp2
  go_region_held3 (fun w' => w'.cell? ⟨gb, 1, none⟩ = some (.slice ao le cap) ∧ w'.cell? ⟨w.heap.size, 0, none⟩ = some (.int .i64 u) ∧ w'.cell? ⟨w.heap.size, 1, none⟩ = some (.int .i64 x)) (go_keep)
    ((go_at_call 24; refine (find_keep (base := base) hs hlen _ _ _ ?_).mono ?_; exact (h.alloc _).drew; rintro e w2 ⟨rfl, hb2, hk2⟩))
  go_wp2_with fail
  go_ret
  exact ⟨rfl, ((Below.refl _ _).alloc (Nat.le_refl _) _).trans ((Below.refl _ _).drew.trans (hb2.mono (by show _ ≤ (w.alloc _).heap.size; simp)))⟩

end Go.Proofs.Ymwhbd
