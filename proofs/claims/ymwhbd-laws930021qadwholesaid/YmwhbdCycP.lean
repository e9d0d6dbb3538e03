/- The plain side of the cycle test: no Go in sight. -/
import Derived.Test.YmwhbdPeelP
namespace Go.Proofs.Ymwhbd
set_option linter.unusedSimpArgs false
set_option linter.unusedVariables false

/-- The i-th vertex has an edge (p) to the next one around, and does not stand before. -/
def okC (p : Int → Int → Bool) (c : List Int) (i : Nat) : Bool := p (c.getD i 0) (c.getD ((i + 1) % c.length) 0) && !inO (c.take i) (c.getD i 0)
def isCyc (p : Int → Int → Bool) (c : List Int) : Bool := decide (0 < c.length) && (List.range c.length).all (okC p c)
theorem isCyc_no {p : Int → Int → Bool} {c : List Int} {i : Nat} (hi : i < c.length) (h : okC p c i = false) : isCyc p c = false := by
  unfold isCyc
  have : (List.range c.length).all (okC p c) = false := by
    rw [List.all_eq_false]
    exact ⟨i, by simpa using hi, by simp [h]⟩
  simp [this]
theorem isCyc_yes {p : Int → Int → Bool} {c : List Int} (h : ∀ i, i < c.length → okC p c i = true) : isCyc p c = decide (0 < c.length) := by
  unfold isCyc
  have : (List.range c.length).all (okC p c) = true := by
    rw [List.all_eq_true]
    intro i hi; exact h i (by simpa using hi)
  simp [this]
theorem isCyc_nil (p : Int → Int → Bool) : isCyc p [] = false := rfl
theorem isCyc_congr {p q : Int → Int → Bool} (h : ∀ v w, p v w = q v w) (c : List Int) : isCyc p c = isCyc q c := by
  have : p = q := funext fun v => funext fun w => h v w
  rw [this]
theorem getD_eq {c : List Int} {i : Nat} (h : i < c.length) : c.getD i 0 = c[i] := by simp [List.getD, h]
theorem inO_take_succ {c : List Int} {i : Nat} (h : i < c.length) (x : Int) : inO (c.take (i + 1)) x = (inO (c.take i) x || decide (x = c[i])) := by
  rw [List.take_succ_eq_append_getElem h, inO_snoc]

/-! Where an edge stands in a sorted list, one vertex pair after the other -/
theorem posE_count {G : List (Int × Int)} (hs : SortedE G) (e : Int × Int) : posE G e = G.countP (fun x => ltE x e) := by
  induction G with
  | nil => rfl
  | cons x r ih =>
    have hs' := List.pairwise_cons.1 hs
    have := ih hs'.2
    simp only [posE, List.countP_cons]
    by_cases hx : ltE x e = true
    · simp [hx, this]
    · simp only [hx]
      have : r.countP (fun x => ltE x e) = 0 := by
        rw [List.countP_eq_zero]
        intro y hy hye
        exact hx (ltE_trans (hs'.1 y hy) hye)
      simp [this]
theorem posE_succ_v {G : List (Int × Int)} (hs : SortedE G) (u v : Int) : posE G (u, v + 1) = posE G (u, v) + if (u, v) ∈ G then 1 else 0 := by
  rw [posE_count hs, posE_count hs]
  have h1 : ∀ l : List (Int × Int), l.countP (fun x => ltE x (u, v + 1)) = l.countP (fun x => ltE x (u, v)) + l.count (u, v) := by
    intro l
    induction l with
    | nil => rfl
    | cons x r ih =>
      simp only [List.countP_cons, List.count_cons, ih]
      obtain ⟨a, b⟩ := x
      by_cases h1 : a < u
      · have e1 : ltE (a, b) (u, v + 1) = true := by rw [ltE_iff]; simp; omega
        have e2 : ltE (a, b) (u, v) = true := by rw [ltE_iff]; simp; omega
        have e3 : ((a, b) == (u, v)) = false := by simp; omega
        simp [e1, e2, e3]; omega
      · by_cases h2 : a = u
        · subst h2
          by_cases h3 : b < v
          · have e1 : ltE (a, b) (a, v + 1) = true := by rw [ltE_iff]; simp; omega
            have e2 : ltE (a, b) (a, v) = true := by rw [ltE_iff]; simp; omega
            have e3 : ((a, b) == (a, v)) = false := by simp; omega
            simp [e1, e2, e3]; omega
          · by_cases h4 : b = v
            · subst h4
              have e1 : ltE (a, b) (a, b + 1) = true := by rw [ltE_iff]; simp; omega
              have e2 : ltE (a, b) (a, b) = false := ltE_irrefl _
              simp [e1, e2]; omega
            · have e1 : ltE (a, b) (a, v + 1) = false := by simp [ltE]; omega
              have e2 : ltE (a, b) (a, v) = false := by simp [ltE]; omega
              have e3 : ((a, b) == (a, v)) = false := by simp; omega
              simp [e1, e2, e3]
        · have e1 : ltE (a, b) (u, v + 1) = false := by simp [ltE]; omega
          have e2 : ltE (a, b) (u, v) = false := by simp [ltE]; omega
          have e3 : ((a, b) == (u, v)) = false := by simp; omega
          simp [e1, e2, e3]
  rw [h1]
  congr 1
  exact List.Nodup.count hs.nodup
theorem posE_row {G : List (Int × Int)} (hs : SortedE G) {n : Int} (hin : ∀ e ∈ G, 0 ≤ e.2 ∧ e.2 < n) (u : Int) : posE G (u, n) = posE G (u + 1, 0) := by
  rw [posE_count hs, posE_count hs]
  apply List.countP_congr
  intro x hx
  have := hin x hx
  rw [ltE_iff, ltE_iff]
  simp only
  omega
theorem posE_all {G : List (Int × Int)} (hs : SortedE G) {n : Int} (hin : ∀ e ∈ G, e.1 < n) : posE G (n, 0) = G.length := by
  rw [posE_count hs, List.countP_eq_length]
  intro x hx
  have := hin x hx
  rw [ltE_iff]; simp only; omega
theorem posE_none {G : List (Int × Int)} (hs : SortedE G) (hin : ∀ e ∈ G, 0 ≤ e.1 ∧ 0 ≤ e.2) : posE G (0, 0) = 0 := by
  rw [posE_count hs, List.countP_eq_zero]
  intro x hx
  have := hin x hx
  rw [ltE_iff]; simp only; omega

end Go.Proofs.Ymwhbd
