/- The plain side of peeling: no Go in sight. -/
import Derived.Test.YmwhbdPlain
namespace Go.Proofs.Ymwhbd
set_option linter.unusedSimpArgs false
set_option linter.unusedVariables false

/-- A table of n entries. -/
def tab {α : Type} (n : Nat) (f : Nat → α) : List α := (List.range n).map f
theorem tab_length {α : Type} (n : Nat) (f : Nat → α) : (tab n f).length = n := by simp [tab]
theorem tab_get {α : Type} (n : Nat) (f : Nat → α) (i : Nat) (h : i < n) : (tab n f)[i]? = some (f i) := by simp [tab, h]
theorem tab_congr {α : Type} (n : Nat) (f g : Nat → α) (h : ∀ i, i < n → f i = g i) : tab n f = tab n g := by
  unfold tab
  exact List.map_congr_left fun i hi => h i (by simpa using hi)
theorem tab_set {α : Type} (n : Nat) (f : Nat → α) (u : Nat) (x : α) : (tab n f).set u x = tab n (fun j => if j = u then x else f j) := by
  apply List.ext_getElem?
  intro i
  rw [List.getElem?_set]
  by_cases hi : i < n
  · rw [tab_get n (fun j => if j = u then x else f j) i hi]
    by_cases hu : u = i
    · subst hu; simp [tab_length, hi]
    · rw [if_neg hu, tab_get n f i hi, if_neg (fun h => hu h.symm)]
  · have h1 : (tab n f)[i]? = none := by rw [List.getElem?_eq_none]; simp [tab_length]; omega
    have h2 : (tab n (fun j => if j = u then x else f j))[i]? = none := by rw [List.getElem?_eq_none]; simp [tab_length]; omega
    rw [h1, h2]
    by_cases hu : u = i
    · subst hu; simp [tab_length, hi]
    · simp [hu]
theorem tab_map {α β : Type} (n : Nat) (f : Nat → α) (g : α → β) : (tab n f).map g = tab n (fun i => g (f i)) := by simp [tab]
theorem tab_const {α : Type} (n : Nat) (x : α) : tab n (fun _ => x) = List.replicate n x := by
  unfold tab; rw [List.map_const', List.length_range]

def inO (ord : List Int) (x : Int) : Bool := decide (x ∈ ord)
theorem inO_nil (x : Int) : inO [] x = false := by simp [inO]
theorem inO_snoc (ord : List Int) (v x : Int) : inO (ord ++ [v]) x = (inO ord x || decide (x = v)) := by
  unfold inO; rw [Bool.eq_iff_iff]; simp

/-- How many edges lead into u from a vertex that is not in ord. -/
def degO (es : List (Int × Int)) (ord : List Int) (u : Int) : Nat := es.countP (fun e => decide (e.2 = u) && !inO ord e.1)
/-- How many edges lead from v to u. -/
def cntE (es : List (Int × Int)) (v u : Int) : Nat := es.countP (fun e => decide (e.2 = u) && decide (e.1 = v))
theorem degO_le (es : List (Int × Int)) (ord : List Int) (u : Int) : degO es ord u ≤ es.length := List.countP_le_length
theorem cntE_le (es : List (Int × Int)) (v u : Int) : cntE es v u ≤ es.length := List.countP_le_length
theorem degO_snoc (es : List (Int × Int)) (ord : List Int) (v : Int) (hv : inO ord v = false) (u : Int) : degO es (ord ++ [v]) u + cntE es v u = degO es ord u := by
  unfold degO cntE
  induction es with
  | nil => simp
  | cons e r ih =>
    simp only [List.countP_cons, inO_snoc] at *
    by_cases h2 : e.2 = u
    · by_cases h1 : e.1 = v
      · simp [h2, h1, hv] at *; omega
      · cases h3 : inO ord e.1 <;> simp [h2, h1, h3] at * <;> omega
    · simp [h2] at *; omega
theorem degO_zero (es : List (Int × Int)) (ord : List Int) (u : Int) : degO es ord u = 0 ↔ ∀ e ∈ es, e.2 = u → inO ord e.1 = true := by
  unfold degO
  rw [List.countP_eq_zero]
  constructor
  · intro h e he h2
    have := h e he
    simp [h2] at this; exact this
  · intro h e he
    by_cases h2 : e.2 = u
    · simp [h2, h e he h2]
    · simp [h2]
theorem degO_snocE (es : List (Int × Int)) (e : Int × Int) (ord : List Int) (u : Int) : degO (es ++ [e]) ord u = degO es ord u + if e.2 = u ∧ inO ord e.1 = false then 1 else 0 := by
  unfold degO
  rw [List.countP_append]
  congr 1
  by_cases h : e.2 = u ∧ inO ord e.1 = false
  · simp [h.1, h.2]
  · rw [if_neg h]
    simp only [List.countP_singleton]
    rw [if_neg]
    intro h'
    simp at h'
    exact h h'
theorem cntE_snocE (es : List (Int × Int)) (e : Int × Int) (v u : Int) : cntE (es ++ [e]) v u = cntE es v u + if e.2 = u ∧ e.1 = v then 1 else 0 := by
  unfold cntE
  rw [List.countP_append]
  congr 1
  by_cases h : e.2 = u ∧ e.1 = v
  · simp [h.1, h.2]
  · rw [if_neg h]
    simp only [List.countP_singleton]
    rw [if_neg]
    intro h'
    simp at h'
    exact h h'

def freeV (es : List (Int × Int)) (ord : List Int) (v : Int) : Bool := !inO ord v && decide (degO es ord v = 0)

/-- The first v from 'start' on, among the next 'fuel' ones, at which p says yes; else the one behind them. -/
def scanV (p : Nat → Bool) : Nat → Nat → Nat
  | 0, v => v
  | f + 1, v => if p v then v else scanV p f (v + 1)
theorem scanV_bounds (p : Nat → Bool) (f v : Nat) : v ≤ scanV p f v ∧ scanV p f v ≤ v + f := by
  induction f generalizing v with
  | zero => simp [scanV]
  | succ f ih =>
    simp only [scanV]; split
    · omega
    · have := ih (v + 1); omega
theorem scanV_yes (p : Nat → Bool) (n v : Nat) (h : v < n) (hp : p v = true) : scanV p (n - v) v = v := by
  rw [show n - v = (n - v - 1) + 1 by omega]; simp [scanV, hp]
theorem scanV_no (p : Nat → Bool) (n v : Nat) (h : v < n) (hp : p v = false) : scanV p (n - v) v = scanV p (n - (v + 1)) (v + 1) := by
  rw [show n - v = (n - (v + 1)) + 1 by omega]; simp [scanV, hp]
theorem scanV_end (p : Nat → Bool) (n : Nat) : scanV p (n - n) n = n := by simp [scanV]
theorem scanV_hit (p : Nat → Bool) (f v : Nat) (h : scanV p f v < v + f) : p (scanV p f v) = true := by
  induction f generalizing v with
  | zero => simp [scanV] at h
  | succ f ih =>
    simp only [scanV] at *
    split
    · assumption
    · rename_i hp; rw [if_neg hp] at h; exact ih (v + 1) (by omega)

def nextV (n : Nat) (es : List (Int × Int)) (ord : List Int) : Nat := scanV (fun v => freeV es ord (v : Int)) n 0
theorem nextV_le (n : Nat) (es : List (Int × Int)) (ord : List Int) : nextV n es ord ≤ n := by have := (scanV_bounds (fun v => freeV es ord (v : Int)) n 0).2; unfold nextV; omega
theorem nextV_free (n : Nat) (es : List (Int × Int)) (ord : List Int) (h : nextV n es ord < n) : freeV es ord (nextV n es ord : Int) = true :=
  scanV_hit (fun v => freeV es ord (v : Int)) n 0 (by unfold nextV at h; omega)

/-- The order after k steps of peeling. -/
def peelN (n : Nat) (es : List (Int × Int)) : Nat → List Int
  | 0 => []
  | k + 1 => if nextV n es (peelN n es k) < n then peelN n es k ++ [(nextV n es (peelN n es k) : Int)] else peelN n es k
theorem peelN_succ (n : Nat) (es : List (Int × Int)) (k : Nat) (h : nextV n es (peelN n es k) < n) : peelN n es (k + 1) = peelN n es k ++ [(nextV n es (peelN n es k) : Int)] := by simp [peelN, h]
theorem peelN_stop (n : Nat) (es : List (Int × Int)) (k : Nat) (h : ¬ nextV n es (peelN n es k) < n) (j : Nat) : peelN n es (k + j) = peelN n es k := by
  induction j with
  | zero => rfl
  | succ j ih =>
    rw [← Nat.add_assoc]
    show (if nextV n es (peelN n es (k + j)) < n then _ else _) = _
    rw [ih, if_neg h]
theorem peelN_length (n : Nat) (es : List (Int × Int)) (k : Nat) : (peelN n es k).length ≤ k := by
  induction k with
  | zero => simp [peelN]
  | succ k ih =>
    simp only [peelN]; split
    · simp; omega
    · omega
theorem peelN_range (n : Nat) (es : List (Int × Int)) (k : Nat) : ∀ v ∈ peelN n es k, 0 ≤ v ∧ v < (n : Int) := by
  induction k with
  | zero => simp [peelN]
  | succ k ih =>
    simp only [peelN]; split
    · rename_i h
      intro v hv
      rw [List.mem_append] at hv
      rcases hv with hv | hv
      · exact ih v hv
      · simp at hv; omega
    · exact ih

theorem freeV_congr {es es' : List (Int × Int)} (h : ∀ e, e ∈ es ↔ e ∈ es') (ord : List Int) (v : Int) : freeV es ord v = freeV es' ord v := by
  unfold freeV
  congr 1
  rw [Bool.eq_iff_iff, decide_eq_true_iff, decide_eq_true_iff, degO_zero, degO_zero]
  constructor
  · intro k e he; exact k e ((h e).2 he)
  · intro k e he; exact k e ((h e).1 he)
theorem nextV_congr {es es' : List (Int × Int)} (h : ∀ e, e ∈ es ↔ e ∈ es') (n : Nat) (ord : List Int) : nextV n es ord = nextV n es' ord := by
  unfold nextV
  have : (fun v : Nat => freeV es ord (v : Int)) = (fun v : Nat => freeV es' ord (v : Int)) := funext fun v => freeV_congr h ord v
  rw [this]
theorem peelN_congr {es es' : List (Int × Int)} (h : ∀ e, e ∈ es ↔ e ∈ es') (n k : Nat) : peelN n es k = peelN n es' k := by
  induction k with
  | zero => rfl
  | succ k ih => simp only [peelN, ih, nextV_congr h]

end Go.Proofs.Ymwhbd
