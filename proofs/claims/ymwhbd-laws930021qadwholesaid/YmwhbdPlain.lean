/- Plain functions on lists of edges: no Go in sight. -/
namespace Go.Proofs.Ymwhbd
set_option linter.unusedSimpArgs false
set_option linter.unusedVariables false

/-- The order of edges: by From, then by To. -/
def ltE (p q : Int × Int) : Bool := decide (p.1 < q.1 ∨ (p.1 = q.1 ∧ p.2 < q.2))
theorem ltE_iff (p q : Int × Int) : ltE p q = true ↔ (p.1 < q.1 ∨ (p.1 = q.1 ∧ p.2 < q.2)) := by simp [ltE]
theorem ltE_trans {p q r : Int × Int} (h : ltE p q = true) (k : ltE q r = true) : ltE p r = true := by
  rw [ltE_iff] at *; omega
theorem ltE_irrefl (p : Int × Int) : ltE p p = false := by simp [ltE]
theorem ltE_tri {p q : Int × Int} (h : ltE p q = false) (hne : p ≠ q) : ltE q p = true := by
  obtain ⟨a, b⟩ := p; obtain ⟨c, d⟩ := q
  rw [ltE_iff]; simp [ltE] at h hne
  by_cases hac : a = c
  · have := hne hac; have := h.2 hac; simp; omega
  · simp; omega

def SortedE (es : List (Int × Int)) : Prop := es.Pairwise (fun p q => ltE p q = true)

/-- How many edges at the head come before e. -/
def posE : List (Int × Int) → Int × Int → Nat
  | [], _ => 0
  | x :: r, e => if ltE x e then posE r e + 1 else 0
def hasE (es : List (Int × Int)) (e : Int × Int) : Bool := decide (es[posE es e]? = some e)
def insE (es : List (Int × Int)) (e : Int × Int) : List (Int × Int) := if hasE es e then es else es.take (posE es e) ++ e :: es.drop (posE es e)
def delE (es : List (Int × Int)) (e : Int × Int) : List (Int × Int) := if hasE es e then es.take (posE es e) ++ es.drop (posE es e + 1) else es

theorem posE_le (es : List (Int × Int)) (e : Int × Int) : posE es e ≤ es.length := by
  induction es with
  | nil => simp [posE]
  | cons x r ih => simp only [posE]; split <;> simp <;> omega

theorem posE_lt {es : List (Int × Int)} {e : Int × Int} {i : Nat} (hi : i < posE es e) (h : i < es.length) : ltE es[i] e = true := by
  induction es generalizing i with
  | nil => simp at h
  | cons x r ih =>
    simp only [posE] at hi
    by_cases hx : ltE x e = true
    · rw [if_pos hx] at hi
      match i with
      | 0 => exact hx
      | j + 1 => exact ih (by omega) (by simpa using h)
    · rw [if_neg hx] at hi; omega

theorem posE_at {es : List (Int × Int)} {e : Int × Int} (h : posE es e < es.length) : ltE es[posE es e] e = false := by
  induction es with
  | nil => simp at h
  | cons x r ih =>
    by_cases hx : ltE x e = true
    · have e1 : posE (x :: r) e = posE r e + 1 := by simp [posE, hx]
      have h' : posE r e < r.length := by rw [e1] at h; simpa using h
      have := ih h'
      simp only [e1, List.getElem_cons_succ]; exact this
    · have e1 : posE (x :: r) e = 0 := by simp [posE, hx]
      simp only [e1, List.getElem_cons_zero]; simpa using hx

theorem SortedE.get {es : List (Int × Int)} (hs : SortedE es) {i j : Nat} (hij : i < j) (hj : j < es.length) : ltE es[i] es[j] = true :=
  List.pairwise_iff_getElem.1 hs i j (by omega) hj hij

/-- In a sorted list the binary search's test says on which side of the place it stands. -/
theorem SortedE.lt_iff {es : List (Int × Int)} (hs : SortedE es) (e : Int × Int) {i : Nat} (h : i < es.length) : ltE es[i] e = true ↔ i < posE es e := by
  constructor
  · intro hl
    rcases Nat.lt_or_ge i (posE es e) with h' | h'
    · exact h'
    · exfalso
      have hp : posE es e < es.length := by omega
      have hb := posE_at hp
      rcases Nat.eq_or_lt_of_le h' with heq | hlt
      · simp only [heq] at hb; rw [hb] at hl; cases hl
      · have := ltE_trans (hs.get hlt h) hl
        rw [hb] at this; cases this
  · intro hi; exact posE_lt hi h

theorem hasE_iff {es : List (Int × Int)} (hs : SortedE es) (e : Int × Int) : hasE es e = true ↔ e ∈ es := by
  unfold hasE; rw [decide_eq_true_iff]
  constructor
  · intro h; exact List.mem_of_getElem? h
  · intro h
    obtain ⟨i, hi, hie⟩ := List.getElem_of_mem h
    have h1 : ¬ i < posE es e := by rw [← hs.lt_iff e hi, hie, ltE_irrefl]; simp
    rcases Nat.eq_or_lt_of_le (Nat.le_of_not_lt h1) with heq | hlt
    · rw [heq, List.getElem?_eq_getElem hi, hie]
    · exfalso
      have hb := posE_at (es := es) (e := e) (by omega)
      have := hs.get hlt hi
      rw [hie, hb] at this; cases this

theorem mem_take_drop {es : List (Int × Int)} (k : Nat) (x : Int × Int) : (x ∈ es.take k ∨ x ∈ es.drop k) ↔ x ∈ es := by
  rw [← List.mem_append, List.take_append_drop]

theorem mem_insE (es : List (Int × Int)) (e x : Int × Int) : x ∈ insE es e ↔ x = e ∨ x ∈ es := by
  unfold insE
  by_cases h : hasE es e = true
  · rw [if_pos h]
    constructor
    · exact .inr
    · rintro (rfl | h')
      · unfold hasE at h; rw [decide_eq_true_iff] at h; exact List.mem_of_getElem? h
      · exact h'
  · rw [if_neg h]
    simp only [List.mem_append, List.mem_cons]
    rw [← mem_take_drop (es := es) (posE es e) x]
    constructor
    · rintro (h | h | h)
      · exact .inr (.inl h)
      · exact .inl h
      · exact .inr (.inr h)
    · rintro (h | h | h)
      · exact .inr (.inl h)
      · exact .inl h
      · exact .inr (.inr h)

theorem lt_of_mem_take {es : List (Int × Int)} {e x : Int × Int} (h : x ∈ es.take (posE es e)) : ltE x e = true := by
  obtain ⟨i, hi, hie⟩ := List.getElem_of_mem h
  simp at hi hie
  rw [← hie]; exact posE_lt (by omega) (by omega)

theorem le_of_mem_drop {es : List (Int × Int)} (hs : SortedE es) {e x : Int × Int} (h : x ∈ es.drop (posE es e)) : ltE x e = false := by
  obtain ⟨i, hi, hie⟩ := List.getElem_of_mem h
  simp at hi hie
  rw [← hie]
  have h1 := hs.lt_iff e (i := posE es e + i) (by omega)
  cases hc : ltE es[posE es e + i] e
  · rfl
  · have := h1.1 hc; omega

theorem SortedE.ins {es : List (Int × Int)} (hs : SortedE es) (e : Int × Int) : SortedE (insE es e) := by
  by_cases h : hasE es e = true
  · unfold insE; rw [if_pos h]; exact hs
  · have hne : e ∉ es := fun h' => h ((hasE_iff hs e).2 h')
    unfold insE; rw [if_neg h]
    unfold SortedE at *
    rw [List.pairwise_append, List.pairwise_cons]
    have hsp := hs
    rw [← List.take_append_drop (posE es e) es, List.pairwise_append] at hsp
    refine ⟨hsp.1, ⟨fun x hx => ?_, hsp.2.1⟩, fun x hx y hy => ?_⟩
    · exact ltE_tri (le_of_mem_drop hs hx) (fun he => hne (by rw [← he]; exact List.mem_of_mem_drop hx))
    · rcases List.mem_cons.1 hy with rfl | hy
      · exact lt_of_mem_take hx
      · exact hsp.2.2 x hx y hy

theorem mem_delE {es : List (Int × Int)} (hs : SortedE es) (e x : Int × Int) : x ∈ delE es e ↔ x ≠ e ∧ x ∈ es := by
  unfold delE
  by_cases h : hasE es e = true
  · rw [if_pos h]
    unfold hasE at h; rw [decide_eq_true_iff] at h
    have hp : posE es e < es.length := (List.getElem?_eq_some_iff.1 h).1
    have hget : es[posE es e] = e := (List.getElem?_eq_some_iff.1 h).2
    have hd : es.drop (posE es e) = e :: es.drop (posE es e + 1) := by rw [List.drop_eq_getElem_cons hp, hget]
    have hsp := hs
    unfold SortedE at hsp
    rw [← List.take_append_drop (posE es e) es, hd, List.pairwise_append, List.pairwise_cons] at hsp
    rw [← mem_take_drop (es := es) (posE es e) x, hd, List.mem_append, List.mem_cons]
    constructor
    · rintro (h1 | h1)
      · refine ⟨fun he => ?_, .inl h1⟩
        have := lt_of_mem_take h1; rw [he, ltE_irrefl] at this; cases this
      · refine ⟨fun he => ?_, .inr (.inr h1)⟩
        have := hsp.2.1.1 x h1; rw [he, ltE_irrefl] at this; cases this
    · rintro ⟨hn, h1 | h1 | h1⟩
      · exact .inl h1
      · exact absurd h1 hn
      · exact .inr h1
  · rw [if_neg h]
    constructor
    · intro hx; exact ⟨fun he => h ((hasE_iff hs e).2 (he ▸ hx)), hx⟩
    · exact fun hx => hx.2

theorem SortedE.del {es : List (Int × Int)} (hs : SortedE es) (e : Int × Int) : SortedE (delE es e) := by
  unfold delE
  split
  · refine List.Pairwise.sublist ?_ hs
    conv => rhs; rw [← List.take_append_drop (posE es e) es]
    refine List.Sublist.append (List.Sublist.refl _) ?_
    rw [← List.drop_drop]
    exact List.drop_sublist _ _
  · exact hs

theorem SortedE.ext {a b : List (Int × Int)} (ha : SortedE a) (hb : SortedE b) (h : ∀ x, x ∈ a ↔ x ∈ b) : a = b := by
  induction a generalizing b with
  | nil =>
    cases b with
    | nil => rfl
    | cons y s => exact absurd ((h y).2 (by simp)) (by simp)
  | cons x r ih =>
    cases b with
    | nil => exact absurd ((h x).1 (by simp)) (by simp)
    | cons y s =>
      have ha' := List.pairwise_cons.1 ha
      have hb' := List.pairwise_cons.1 hb
      have hxy : x = y := by
        rcases List.mem_cons.1 ((h x).1 (by simp)) with h1 | h1
        · exact h1
        · rcases List.mem_cons.1 ((h y).2 (by simp)) with h2 | h2
          · exact h2.symm
          · have := ltE_trans (ha'.1 y h2) (hb'.1 x h1)
            rw [ltE_irrefl] at this; cases this
      subst hxy
      congr 1
      refine ih ha'.2 hb'.2 fun z => ?_
      have hz := h z
      simp only [List.mem_cons] at hz
      constructor
      · intro hzr
        rcases hz.1 (.inr hzr) with h1 | h1
        · have := ha'.1 z hzr; rw [h1, ltE_irrefl] at this; cases this
        · exact h1
      · intro hzs
        rcases hz.2 (.inr hzs) with h1 | h1
        · have := hb'.1 z hzs; rw [h1, ltE_irrefl] at this; cases this
        · exact h1

theorem SortedE.nodup {es : List (Int × Int)} (hs : SortedE es) : es.Nodup := by
  unfold List.Nodup
  rw [List.pairwise_iff_getElem]
  intro i j hi hj hij he
  have h1 := hs.get hij hj
  rw [he, ltE_irrefl] at h1; cases h1

theorem insE_length (es : List (Int × Int)) (e : Int × Int) : (insE es e).length ≤ es.length + 1 := by
  unfold insE; split
  · omega
  · have := posE_le es e; simp; omega
theorem delE_length (es : List (Int × Int)) (e : Int × Int) : (delE es e).length ≤ es.length := by
  unfold delE; split
  · have := posE_le es e; simp; omega
  · omega

end Go.Proofs.Ymwhbd
