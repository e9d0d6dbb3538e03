/- The plain side of the search for a cycle: walking backwards, and the rotation. No Go in sight. -/
import Derived.Test.YmwhbdCycP
namespace Go.Proofs.Ymwhbd
set_option linter.unusedSimpArgs false
set_option linter.unusedVariables false

theorem countP_one {l : List Nat} (hnd : l.Nodup) {v : Nat} (hv : v ∈ l) {p q : Nat → Bool} (hp : p v = true) (hq : q v = false) (h : ∀ u, u ≠ v → p u = q u) : l.countP p = l.countP q + 1 := by
  induction l with
  | nil => simp at hv
  | cons x r ih =>
    have hnd' := List.nodup_cons.1 hnd
    simp only [List.countP_cons]
    by_cases hx : x = v
    · subst hx
      have e1 : r.countP p = r.countP q := by
        apply List.countP_congr
        intro u hu
        rw [h u (fun e => hnd'.1 (e ▸ hu))]
      rw [e1, hp, hq]; simp
    · have hv' : v ∈ r := by
        rcases List.mem_cons.1 hv with e | e
        · exact absurd e.symm hx
        · exact e
      rw [ih hnd'.2 hv', h x hx]; omega

/-- How many vertices do not stand on the path. -/
def freeC (n : Nat) (path : List Int) : Nat := (List.range n).countP (fun u : Nat => !inO path (u : Int))
theorem freeC_nil (n : Nat) : freeC n [] = n := by
  unfold freeC
  have : (List.range n).countP (fun u : Nat => !inO [] (u : Int)) = (List.range n).length := by
    rw [List.countP_eq_length]; intro u _; simp [inO_nil]
  rw [this, List.length_range]
theorem freeC_snoc {n : Nat} {path : List Int} {v : Nat} (hv : v < n) (h : inO path (v : Int) = false) : freeC n path = freeC n (path ++ [(v : Int)]) + 1 := by
  unfold freeC
  refine countP_one List.nodup_range (v := v) (by simpa using hv) (by simp [h]) (by simp [inO_snoc]) ?_
  intro u hu
  rw [inO_snoc, show decide ((u : Int) = (v : Int)) = false by rw [decide_eq_false_iff_not]; omega]; simp

/-- Walking backwards till a vertex comes up again. -/
def bwF (nx : Int → Int) : Nat → List Int → Int → List Int × Int
  | 0, path, v => (path, v)
  | f + 1, path, v => if inO path v then (path, v) else bwF nx f (path ++ [v]) (nx v)
theorem bwF_stop (nx : Int → Int) (f : Nat) (path : List Int) (v : Int) (h : inO path v = true) : bwF nx (f + 1) path v = (path, v) := by simp [bwF, h]
theorem bwF_go (nx : Int → Int) {n : Nat} {path : List Int} {v : Nat} (hv : v < n) (h : inO path (v : Int) = false) : bwF nx (freeC n path + 1) path (v : Int) = bwF nx (freeC n (path ++ [(v : Int)]) + 1) (path ++ [(v : Int)]) (nx (v : Int)) := by
  rw [← freeC_snoc hv h]; simp [bwF, h]
theorem bwF_congr {nx nx' : Int → Int} (h : ∀ v, nx v = nx' v) (f : Nat) (path : List Int) (v : Int) : bwF nx f path v = bwF nx' f path v := by
  have : nx = nx' := funext h
  rw [this]

/-- Where u stands on the path, or -1. -/
def atP (path : List Int) (u : Int) : Int := if inO path u then (path.idxOf u : Int) else -1
theorem atP_neg {path : List Int} {u : Int} (h : inO path u = false) : atP path u = -1 := by simp [atP, h]
theorem atP_pos {path : List Int} {u : Int} (h : inO path u = true) : atP path u = (path.idxOf u : Int) ∧ path.idxOf u < path.length := by
  refine ⟨by simp [atP, h], List.idxOf_lt_length_of_mem (by simpa [inO] using h)⟩
theorem atP_snoc {path : List Int} {v : Int} (h : inO path v = false) (u : Int) : atP (path ++ [v]) u = if u = v then (path.length : Int) else atP path u := by
  have hv : v ∉ path := by simpa [inO] using h
  unfold atP
  rw [inO_snoc]
  by_cases hu : u = v
  · subst hu
    have : (path ++ [u]).idxOf u = path.length := by rw [List.idxOf_append, if_neg hv]; simp
    simp [this]
  · by_cases hi : inO path u = true
    · have hm : u ∈ path := by simpa [inO] using hi
      have : (path ++ [v]).idxOf u = path.idxOf u := by rw [List.idxOf_append, if_pos hm]
      simp [hi, hu, this]
    · simp [hi, hu]

/-- The cycle, backwards along the path. -/
def cycB (path : List Int) (v : Int) : List Int := (path.drop (path.idxOf v)).reverse
theorem drop_rev {path : List Int} {j : Nat} (h : j < path.length) : (path.drop j).reverse = (path.drop (j + 1)).reverse ++ [path[j]] := by
  rw [List.drop_eq_getElem_cons h]; simp

/-- The index of the first least among the first k. -/
def minI (c : List Int) : Nat → Nat
  | 0 => 0
  | k + 1 => if c.getD k 0 < c.getD (minI c k) 0 then k else minI c k
theorem minI_le (c : List Int) (k : Nat) : minI c k ≤ k := by
  induction k with
  | zero => simp [minI]
  | succ k ih => simp only [minI]; split <;> omega
theorem minI_lt {c : List Int} (h : 0 < c.length) (k : Nat) (hk : k ≤ c.length) : minI c k < c.length := by
  induction k with
  | zero => simpa [minI] using h
  | succ k ih =>
    have := ih (by omega)
    simp only [minI]; split <;> omega
def rotM (c : List Int) : List Int := c.drop (minI c c.length) ++ c.take (minI c c.length)
theorem rotM_length (c : List Int) : (rotM c).length = c.length := by
  have := minI_le c c.length
  simp [rotM]; omega
theorem rotM_get {c : List Int} {i : Nat} (hi : i < c.length) : (rotM c)[i]? = c[(minI c c.length + i) % c.length]? := by
  have hm := minI_lt (by omega) c.length (Nat.le_refl _)
  unfold rotM
  by_cases h : i < c.length - minI c c.length
  · rw [List.getElem?_append_left (by simp; omega), List.getElem?_drop, Nat.mod_eq_of_lt (by omega)]
  · rw [List.getElem?_append_right (by simp; omega), List.getElem?_take, if_pos (by simp; omega)]
    congr 1
    simp
    rw [show minI c c.length + i = (i - (c.length - minI c c.length)) + c.length by omega, Nat.add_mod_right, Nat.mod_eq_of_lt (by omega)]

/-- The first left-over vertex with an edge into v, in the edges' order; v itself if there is none. -/
def predV (es : List (Int × Int)) (ord : List Int) (v : Int) : Int :=
  match es.find? (fun e => decide (e.2 = v) && !inO ord e.1) with
  | some e => e.1
  | none => v
theorem scanV_le (p : Nat → Bool) (f v u : Nat) (h1 : v ≤ u) (h2 : u < v + f) (hp : p u = true) : scanV p f v ≤ u := by
  induction f generalizing v with
  | zero => omega
  | succ f ih =>
    simp only [scanV]
    by_cases hv : p v = true
    · rw [if_pos hv]; exact h1
    · rw [if_neg hv]
      rcases Nat.eq_or_lt_of_le h1 with e | e
      · subst e; exact absurd hp hv
      · exact ih (v + 1) (by omega) (by omega)
def predS (n : Nat) (G : List (Int × Int)) (ord : List Int) (v : Int) : Int :=
  if scanV (fun u => !inO ord (u : Int) && decide (((u : Int), v) ∈ G)) n 0 < n then (scanV (fun u => !inO ord (u : Int) && decide (((u : Int), v) ∈ G)) n 0 : Int) else v
theorem pred_scan {G : List (Int × Int)} (hs : SortedE G) {n : Nat} (hin : ∀ e ∈ G, 0 ≤ e.1 ∧ e.1 < (n : Int)) (ord : List Int) (v : Int) : predV G ord v = predS n G ord v := by
  unfold predV predS
  have hb := (scanV_bounds (fun u => !inO ord (u : Int) && decide (((u : Int), v) ∈ G)) n 0).2
  have hh := scanV_hit (fun u => !inO ord (u : Int) && decide (((u : Int), v) ∈ G)) n 0
  have hle := scanV_le (fun u => !inO ord (u : Int) && decide (((u : Int), v) ∈ G)) n 0
  generalize scanV (fun u => !inO ord (u : Int) && decide (((u : Int), v) ∈ G)) n 0 = s at *
  cases hf : G.find? (fun e => decide (e.2 = v) && !inO ord e.1) with
  | none =>
    rw [List.find?_eq_none] at hf
    rw [if_neg]
    intro hsn
    have h1 := hh (by omega)
    simp at h1
    have := hf _ h1.2
    simp [h1.1] at this
  | some e =>
    obtain ⟨hp, as, bs, hG, has⟩ := List.find?_eq_some_iff_append.1 hf
    simp at hp
    have heG : e ∈ G := by rw [hG]; simp
    obtain ⟨a, b⟩ := e
    obtain ⟨ha0, ha1⟩ := hin _ heG
    simp only at *
    obtain ⟨hbv, hao⟩ := hp
    subst hbv
    obtain ⟨a', rfl⟩ := Int.eq_ofNat_of_zero_le ha0
    have hsa := hle a' (by omega) (by omega) (by simp [hao, heG])
    have hsn : s < n := by omega
    rw [if_pos hsn]
    have h1 := hh (by omega)
    simp at h1
    rcases Nat.eq_or_lt_of_le hsa with e | hlt
    · rw [e]
    · exfalso
      have hmem := h1.2
      rw [hG, List.mem_append, List.mem_cons] at hmem
      rcases hmem with h' | h' | h'
      · have := has _ h'
        simp [h1.1] at this
      · simp at h'; omega
      · have hs' := hs
        unfold SortedE at hs'
        rw [hG, List.pairwise_append, List.pairwise_cons] at hs'
        have := hs'.2.1.1 _ h'
        rw [ltE_iff] at this
        simp at this
        omega

/-! The matrix -/
def degA (n : Nat) (ad : Nat → Nat → Bool) (ord : List Int) (v : Nat) : Nat := (List.range n).countP (fun u : Nat => ad u v && !inO ord (u : Int))
theorem degA_le (n : Nat) (ad : Nat → Nat → Bool) (ord : List Int) (v : Nat) : degA n ad ord v ≤ n := by
  have := List.countP_le_length (l := List.range n) (p := fun u : Nat => ad u v && !inO ord (u : Int))
  simpa [degA] using this
theorem degA_snoc {n : Nat} {ad : Nat → Nat → Bool} {ord : List Int} {u : Nat} (hu : u < n) (h : inO ord (u : Int) = false) (v : Nat) : degA n ad ord v = degA n ad (ord ++ [(u : Int)]) v + if ad u v then 1 else 0 := by
  unfold degA
  by_cases ha : ad u v = true
  · rw [if_pos ha]
    refine countP_one List.nodup_range (v := u) (by simpa using hu) (by simp [h, ha]) (by simp [inO_snoc]) ?_
    intro w hw
    rw [inO_snoc, show decide ((w : Int) = (u : Int)) = false by rw [decide_eq_false_iff_not]; omega]; simp
  · rw [if_neg ha]
    apply List.countP_congr
    intro w _
    by_cases hw : w = u
    · subst hw; simp [ha]
    · rw [inO_snoc, show decide ((w : Int) = (u : Int)) = false by rw [decide_eq_false_iff_not]; omega]; simp
theorem degA_zero (n : Nat) (ad : Nat → Nat → Bool) (ord : List Int) (v : Nat) : degA n ad ord v = 0 ↔ ∀ u, u < n → ad u v = true → inO ord (u : Int) = true := by
  unfold degA
  rw [List.countP_eq_zero]
  constructor
  · intro h u hu ha
    have := h u (by simpa using hu)
    simp [ha] at this; exact this
  · intro h u hu
    have hu' : u < n := by simpa using hu
    by_cases ha : ad u v = true
    · simp [ha, h u hu' ha]
    · simp [ha]
theorem free_same {n : Nat} {ad : Nat → Nat → Bool} {es : List (Int × Int)} (had : ∀ u v : Nat, u < n → v < n → (ad u v = true ↔ ((u : Int), (v : Int)) ∈ es)) (hin : ∀ e ∈ es, 0 ≤ e.1 ∧ e.1 < (n : Int)) (ord : List Int) (v : Nat) (hv : v < n) :
    freeV es ord (v : Int) = (!inO ord (v : Int) && decide (degA n ad ord v = 0)) := by
  unfold freeV
  congr 1
  rw [Bool.eq_iff_iff, decide_eq_true_iff, decide_eq_true_iff, degO_zero, degA_zero]
  constructor
  · intro h u hu ha; exact h _ ((had u v hu hv).1 ha) rfl
  · intro h e he h2
    obtain ⟨a, b⟩ := e
    simp only at h2
    subst h2
    obtain ⟨h0, h1⟩ := hin _ he
    simp only at h0 h1
    obtain ⟨a', rfl⟩ := Int.eq_ofNat_of_zero_le h0
    exact h a' (by omega) ((had a' v (by omega) hv).2 he)

end Go.Proofs.Ymwhbd
