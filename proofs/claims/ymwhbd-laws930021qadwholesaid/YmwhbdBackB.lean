/- More of the plain side of the search for a cycle. No Go in sight. -/
import Derived.Test.YmwhbdBack
namespace Go.Proofs.Ymwhbd
set_option linter.unusedSimpArgs false
set_option linter.unusedVariables false

theorem peel_count (n : Nat) (es : List (Int × Int)) (k : Nat) : (peelN n es k).length + freeC n (peelN n es k) = n := by
  induction k with
  | zero => simp [peelN, freeC_nil]
  | succ k ih =>
    simp only [peelN]
    by_cases h : nextV n es (peelN n es k) < n
    · rw [if_pos h]
      have hf := nextV_free n es (peelN n es k) h
      unfold freeV at hf
      have hi : inO (peelN n es k) (nextV n es (peelN n es k) : Int) = false := by
        cases hio : inO (peelN n es k) (nextV n es (peelN n es k) : Int)
        · rfl
        · rw [hio] at hf; simp at hf
      have := freeC_snoc h hi
      simp; omega
    · rw [if_neg h]; exact ih

def leftV (n : Nat) (ord : List Int) : Nat := scanV (fun u => !inO ord (u : Int)) n 0
theorem leftV_lt {n : Nat} {ord : List Int} (h : ord.length + freeC n ord = n) (hl : ord.length ≠ n) : leftV n ord < n := by
  have hp : 0 < freeC n ord := by omega
  unfold freeC at hp
  rw [List.countP_pos_iff] at hp
  obtain ⟨u, hu, hio⟩ := hp
  have hu' : u < n := by simpa using hu
  have := scanV_le (fun u => !inO ord (u : Int)) n 0 u (by omega) (by omega) hio
  unfold leftV; omega

theorem find_succ_none {es : List (Int × Int)} {p : Int × Int → Bool} {j : Nat} (hj : j < es.length) (h : (es.take j).find? p = none) (hp : p es[j] = false) : (es.take (j + 1)).find? p = none := by
  rw [List.take_succ_eq_append_getElem hj, List.find?_append, h]
  simp [hp]
theorem find_succ_some {es : List (Int × Int)} {p : Int × Int → Bool} {j : Nat} (hj : j < es.length) (h : (es.take j).find? p = none) (hp : p es[j] = true) : es.find? p = some es[j] := by
  conv => lhs; rw [← List.take_append_drop j es]
  rw [List.find?_append, h, List.drop_eq_getElem_cons hj, List.find?_cons_of_pos hp]
  rfl
theorem predV_some {es : List (Int × Int)} {ord : List Int} {v : Int} {e : Int × Int} (h : es.find? (fun e => decide (e.2 = v) && !inO ord e.1) = some e) : predV es ord v = e.1 := by unfold predV; rw [h]
theorem predV_none {es : List (Int × Int)} {ord : List Int} {v : Int} (h : es.find? (fun e => decide (e.2 = v) && !inO ord e.1) = none) : predV es ord v = v := by unfold predV; rw [h]

/-- The cycle that the backward walk finds, ahead of its rotation. -/
def cycRes (nx : Int → Int) (n : Nat) (ord : List Int) : List Int := cycB (bwF nx (n + 1) [] (leftV n ord : Int)).1 (bwF nx (n + 1) [] (leftV n ord : Int)).2
theorem cycRes_congr {nx nx' : Int → Int} (h : ∀ v, nx v = nx' v) (n : Nat) (ord : List Int) : cycRes nx n ord = cycRes nx' n ord := by
  have : nx = nx' := funext h
  rw [this]

end Go.Proofs.Ymwhbd
