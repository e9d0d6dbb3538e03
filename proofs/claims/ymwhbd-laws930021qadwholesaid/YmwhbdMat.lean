/- The matrix of the law QAD: the plain side, and what memory holds of it. -/
import Derived.Test.YmwhbdCycle
import Derived.Test.YmwhbdQAB
namespace Go.Proofs.Ymwhbd
open Go.RowKit
set_option linter.unusedSimpArgs false
set_option linter.unusedVariables false

def adX (xs : List (Int × Int)) (u v : Nat) : Bool := decide (((u : Int), (v : Int)) ∈ xs)
theorem adX_nil (u v : Nat) : adX [] u v = false := by simp [adX]
theorem adX_snoc (l : List (Int × Int)) (a b u v : Nat) : adX (l ++ [((a : Int), (b : Int))]) u v = (adX l u v || (decide (u = a) && decide (v = b))) := by
  unfold adX
  rw [Bool.eq_iff_iff]
  simp
  constructor
  · rintro (h | ⟨h1, h2⟩)
    · exact .inl h
    · exact .inr ⟨by omega, by omega⟩
  · rintro (h | ⟨h1, h2⟩)
    · exact .inl h
    · exact .inr ⟨by omega, by omega⟩
theorem adX_iff (xs : List (Int × Int)) (u v : Nat) : adX xs u v = true ↔ ((u : Int), (v : Int)) ∈ xs := by simp [adX]

/-- The place of (a, b) in the matrix. -/
theorem sq_idx {n a b : Nat} (ha : a < n) (hb : b < n) : ∃ q s : Nat, (a : Int) * (n : Int) = (q : Int) ∧ (q : Int) + (b : Int) = (s : Int) ∧ s < n * n ∧ q ≤ s ∧ s / n = a ∧ s % n = b := by
  have hn : 0 < n := by omega
  have h1 : (a + 1) * n ≤ n * n := Nat.mul_le_mul_right n (by omega)
  rw [Nat.succ_mul] at h1
  refine ⟨a * n, a * n + b, by simp, by simp, by omega, by omega, ?_, ?_⟩
  · rw [Nat.add_comm, Nat.add_mul_div_right _ _ hn, Nat.div_eq_of_lt hb]; simp
  · rw [Nat.add_comm, Nat.add_mul_mod_self_right, Nat.mod_eq_of_lt hb]
theorem sq_inj {n i s : Nat} (h1 : i / n = s / n) (h2 : i % n = s % n) : i = s := by
  rw [← Nat.div_add_mod i n, ← Nat.div_add_mod s n, h1, h2]

def cntA (ad : Nat → Nat → Bool) (u w : Nat) : Nat := (List.range u).countP (fun a => ad a w)
theorem cntA_zero (ad : Nat → Nat → Bool) (w : Nat) : cntA ad 0 w = 0 := by simp [cntA]
theorem cntA_succ (ad : Nat → Nat → Bool) (u w : Nat) : cntA ad (u + 1) w = cntA ad u w + if ad u w then 1 else 0 := by
  unfold cntA
  rw [List.range_succ, List.countP_append]
  simp [List.countP_cons]
theorem cntA_le (ad : Nat → Nat → Bool) (u w : Nat) : cntA ad u w ≤ u := by
  have := List.countP_le_length (l := List.range u) (p := fun a => ad a w)
  simpa [cntA] using this
theorem cntA_deg (ad : Nat → Nat → Bool) (n w : Nat) : degA n ad [] w = cntA ad n w := by
  unfold degA cntA
  apply List.countP_congr
  intro a _
  simp [inO_nil]

/-- The matrix and a table of n integers. -/
structure AdSt (W wz wr : World) (xs : List (Int × Int)) (n N A D : Nat) (F : Nat → Int) : Prop where
  adj : wr.ownsRow W.heap.size 4 1 (.slice (some ⟨A, 0, none⟩) N N) N (tab N fun i => .bool (adX xs (i / n) (i % n)))
  deg : wr.ownsRow W.heap.size 3 1 (.slice (some ⟨D, 0, none⟩) n n) n (tab n fun u => .int .i64 (F u))
  bel : Below A wz wr
  szA : A < wr.heap.size
  szD : D < wr.heap.size
theorem AdSt.at {W wz wr : World} {xs : List (Int × Int)} {n N A D : Nat} {F : Nat → Int} (h : AdSt W wz wr xs n N A D F) {a b s : Nat} (hs : s < N) (h1 : s / n = a) (h2 : s % n = b) : wr.cell? ⟨A, s, none⟩ = some (.bool (adX xs a b)) := by
  have := tab_cell h.adj s hs
  rw [h1, h2] at this; exact this
theorem AdSt.setDeg {W wz wr : World} {xs : List (Int × Int)} {n N A D : Nat} {F F' : Nat → Int} (h : AdSt W wz wr xs n N A D F) (hAD : A < D) (u : Nat) (x : Int) (hF : ∀ i, i < n → F' i = if i = u then x else F i) :
    AdSt W wz (wr.setCell ⟨D, u, none⟩ (.int .i64 x)) xs n N A D F' := by
  refine ⟨ownsRow_setCell_other h.adj (by simp [Value.ownBlock]; omega) _, tab_stored h.deg u _ fun i hi => ?_, h.bel.setCell (show A ≤ D by omega) _, by simpa using h.szA, by simpa using h.szD⟩
  rw [hF i hi]; split <;> rfl
theorem AdSt.same {W wz wr : World} {xs : List (Int × Int)} {n N A D : Nat} {F F' : Nat → Int} (h : AdSt W wz wr xs n N A D F) (hF : ∀ i, i < n → F' i = F i) : AdSt W wz wr xs n N A D F' := by
  refine ⟨h.adj, ?_, h.bel, h.szA, h.szD⟩
  rw [tab_congr n (fun u => Value.int .i64 (F' u)) (fun u => .int .i64 (F u)) (fun i hi => by rw [hF i hi])]
  exact h.deg
theorem AdSt.grow {W wz wr w' : World} {xs : List (Int × Int)} {n N A D : Nat} {F : Nat → Int} (h : AdSt W wz wr xs n N A D F) (hG : wr.grownBy w' none) : AdSt W wz w' xs n N A D F := by
  have h1 := h.szA
  have h2 := h.szD
  have l := hG.size
  exact ⟨h.adj.kept hG (.inr (by simp [Value.ownBlock])), h.deg.kept hG (.inr (by simp [Value.ownBlock])), h.bel.grown hG (by omega) (by simp), by omega, by omega⟩

/-- And the marks of what is removed. -/
structure RemSt (W wz wr : World) (xs : List (Int × Int)) (n N A D T : Nat) (ord : List Int) (F : Nat → Int) : Prop where
  ads : AdSt W wz wr xs n N A D F
  rem : wr.ownsRow W.heap.size 4 1 (.slice (some ⟨T, 0, none⟩) n n) n (tab n fun u => .bool (inO ord (u : Int)))
  szT : T < wr.heap.size
theorem RemSt.setDeg {W wz wr : World} {xs : List (Int × Int)} {n N A D T : Nat} {ord : List Int} {F F' : Nat → Int} (h : RemSt W wz wr xs n N A D T ord F) (hAD : A < D) (hDT : D < T) (u : Nat) (x : Int) (hF : ∀ i, i < n → F' i = if i = u then x else F i) :
    RemSt W wz (wr.setCell ⟨D, u, none⟩ (.int .i64 x)) xs n N A D T ord F' :=
  ⟨h.ads.setDeg hAD u x hF, ownsRow_setCell_other h.rem (by simp [Value.ownBlock]; omega) _, by simpa using h.szT⟩
theorem RemSt.same {W wz wr : World} {xs : List (Int × Int)} {n N A D T : Nat} {ord : List Int} {F F' : Nat → Int} (h : RemSt W wz wr xs n N A D T ord F) (hF : ∀ i, i < n → F' i = F i) : RemSt W wz wr xs n N A D T ord F' := ⟨h.ads.same hF, h.rem, h.szT⟩
theorem RemSt.taken {W wz wr : World} {xs : List (Int × Int)} {n N A D T : Nat} {ord : List Int} {F : Nat → Int} (h : RemSt W wz wr xs n N A D T ord F) (hAD : A < D) (hDT : D < T) (v : Nat) :
    RemSt W wz (wr.setCell ⟨T, v, none⟩ (.bool true)) xs n N A D T (ord ++ [(v : Int)]) F := by
  refine ⟨⟨ownsRow_setCell_other h.ads.adj (by simp [Value.ownBlock]; omega) _, ownsRow_setCell_other h.ads.deg (by simp [Value.ownBlock]; omega) _, h.ads.bel.setCell (show A ≤ T by omega) _, by simpa using h.ads.szA, by simpa using h.ads.szD⟩, tab_stored h.rem v (.bool true) fun i hi => ?_, by simpa using h.szT⟩
  rw [inO_snoc]
  by_cases hiv : i = v
  · simp [hiv]
  · rw [if_neg hiv, show decide ((i : Int) = (v : Int)) = false by rw [decide_eq_false_iff_not]; omega]; simp
theorem RemSt.grow {W wz wr w' : World} {xs : List (Int × Int)} {n N A D T : Nat} {ord : List Int} {F : Nat → Int} (h : RemSt W wz wr xs n N A D T ord F) (hG : wr.grownBy w' none) : RemSt W wz w' xs n N A D T ord F := by
  have h1 := h.szT
  have l := hG.size
  exact ⟨h.ads.grow hG, h.rem.kept hG (.inr (by simp [Value.ownBlock])), by omega⟩

end Go.Proofs.Ymwhbd
