import Derived.Test.YmwhbdG
import Derived.Deep.AppendLies
namespace Go.Proofs.Ymwhbd
open Go.RowKit
set_option linter.unusedSimpArgs false
set_option linter.unusedVariables false

/-- The first index of e, or the list's length. -/
def idxE : List (Int × Int) → Int × Int → Nat
  | [], _ => 0
  | x :: r, e => if x = e then 0 else idxE r e + 1
theorem idxE_le (es : List (Int × Int)) (e : Int × Int) : idxE es e ≤ es.length := by
  induction es with
  | nil => simp [idxE]
  | cons x r ih => simp only [idxE]; split <;> simp <;> omega
theorem idxE_ne {es : List (Int × Int)} {e : Int × Int} {k : Nat} (hk : k < idxE es e) (h : k < es.length) : es[k] ≠ e := by
  induction es generalizing k with
  | nil => simp at h
  | cons x r ih =>
    simp only [idxE] at hk
    by_cases hx : x = e
    · rw [if_pos hx] at hk; omega
    · rw [if_neg hx] at hk
      match k with
      | 0 => exact hx
      | j + 1 => exact ih (by omega) (by simpa using h)
theorem idxE_at {es : List (Int × Int)} {e : Int × Int} (h : idxE es e < es.length) : es[idxE es e] = e := by
  induction es with
  | nil => simp at h
  | cons x r ih =>
    by_cases hx : x = e
    · have e1 : idxE (x :: r) e = 0 := by simp [idxE, hx]
      simp only [e1, List.getElem_cons_zero]; exact hx
    · have e1 : idxE (x :: r) e = idxE r e + 1 := by simp [idxE, hx]
      have h' : idxE r e < r.length := by rw [e1] at h; simpa using h
      simp only [e1, List.getElem_cons_succ]; exact ih h'
theorem idxE_lt_iff (es : List (Int × Int)) (e : Int × Int) : idxE es e < es.length ↔ e ∈ es := by
  constructor
  · intro h; have := idxE_at h; rw [← this]; exact List.getElem_mem h
  · intro h
    obtain ⟨i, hi, hie⟩ := List.getElem_of_mem h
    rcases Nat.lt_or_ge (idxE es e) es.length with h' | h'
    · exact h'
    · exact absurd hie (idxE_ne (by omega) hi)
/-- What the law's index function answers. -/
def idxV (es : List (Int × Int)) (e : Int × Int) : Int := if idxE es e < es.length then (idxE es e : Int) else -1
theorem idxV_neg (es : List (Int × Int)) (e : Int × Int) : idxV es e < 0 ↔ e ∉ es := by
  rw [← idxE_lt_iff]; unfold idxV; split <;> omega
theorem idxV_nonneg (es : List (Int × Int)) (e : Int × Int) : 0 ≤ idxV es e ↔ e ∈ es := by
  rw [← idxE_lt_iff]; unfold idxV; split <;> omega

set_option maxHeartbeats 400000 in
theorem idx_any {base : Nat} {v : Value} {es : List (Int × Int)} (hlen : es.length ≤ 1000000) (a b : Int) (w : World) (h : EsIn base w v es) :
    Calls Ybdv.prog 14 #[v, .int .i64 a, .int .i64 b] w fun e w' => e = .returned (.int .i64 (idxV es (a, b))) ∧ w' = w := by
  obtain ⟨ao, cap, rfl, _, _, hc⟩ := h.form
  have hle := idxE_le es (a, b)
  clear h
  go_enter Ybdv.func14, Ybdv.ntmps14
  go_wp2
  go_loop [7] (fun t => ∃ k : Nat, k ≤ idxE es (a, b) ∧ t = .int .i64 k) (fun t => es.length - (intOf t).toNat)
  case atStart => exact ⟨0, Nat.zero_le _, rfl⟩
  case round =>
    obtain ⟨k, hk, rfl⟩ := hrel
    by_cases hlt : k < es.length
    · obtain ⟨g, rfl, _, k0, k1⟩ := hc k hlt
      have ik0 : (0 : Int) ≤ (k : Int) := by omega
      have ik1 : (k : Int) < (es.length : Int) := by omega
      have HN : Hid (es[k] ≠ (a, b) → k + 1 ≤ idxE es (a, b)) := by
        intro hne
        rcases Nat.eq_or_lt_of_le hk with h' | h'
        · exfalso
          apply hne
          have := idxE_at (es := es) (e := (a, b)) (by omega)
          simp only [← h'] at this; exact this
        · exact h'
      have HY : Hid (es[k] = (a, b) → idxV es (a, b) = (k : Int)) := by
        intro he
        have : idxE es (a, b) = k := by
          rcases Nat.eq_or_lt_of_le hk with h' | h'
          · exact h'.symm
          · exact absurd he (idxE_ne h' hlt)
        unfold idxV; rw [this, if_pos hlt]
      clear hc
      generalize es[k] = p at *
      by_cases h1 : p.1 = a
      · have t1 : (p.1 == a) = true := by simpa using h1
        by_cases h2 : p.2 = b
        · have t2 : (p.2 == b) = true := by simpa using h2
          have HR := hide (HY.out (by ext <;> simp [h1, h2]))
          clear HY HN h1 h2
          go_wp2
          go_ret
          exact ⟨ret_int HR.out.symm, rfl⟩
        · have t2 : (p.2 == b) = false := by simpa using h2
          have hk1 := HN.out (fun h' => h2 (by rw [h']))
          clear HY HN h1 h2
          go_wp2
          go_round
          case rel => exact ⟨k + 1, by omega, by go_num⟩
          case measure => simp [intOf]; omega
      · have t1 : (p.1 == a) = false := by simpa using h1
        have hk1 := HN.out (fun h' => h1 (by rw [h']))
        clear HY HN h1
        go_wp2
        go_round
        case rel => exact ⟨k + 1, by omega, by go_num⟩
        case measure => simp [intOf]; omega
    · have HR : Hid (idxV es (a, b) = -1) := by show _ = _; unfold idxV; rw [if_neg (by omega)]
      clear hc
      go_wp2
      go_ret
      exact ⟨ret_int HR.out.symm, rfl⟩

theorem erase_take_succ {es : List (Int × Int)} {k i : Nat} (hk : k < es.length) : (es.take (k + 1)).eraseIdx i = if k = i then (es.take k).eraseIdx i else (es.take k).eraseIdx i ++ [es[k]] := by
  have hl : (es.take k).length = k := by simp; omega
  rw [List.take_succ_eq_append_getElem hk]
  rcases Nat.lt_trichotomy i k with h | h | h
  · rw [if_neg (by omega), List.eraseIdx_append_of_lt_length (by omega)]
  · rw [if_pos h.symm, List.eraseIdx_append_of_length_le (by omega), hl, h]; simp [List.eraseIdx_of_length_le, hl]
  · rw [if_neg (by omega), List.eraseIdx_append_of_length_le (by omega), hl]
    rw [List.eraseIdx_of_length_le (by simp; omega), List.eraseIdx_of_length_le (by omega)]

set_option maxHeartbeats 400000 in
theorem drop_any {base : Nat} {v : Value} {es : List (Int × Int)} (hlen : es.length ≤ 1000000) (i : Nat) (hi' : i < es.length) (w : World) (h : EsIn base w v es) :
    Calls Ybdv.prog 17 #[v, .int .i64 (i : Int)] w fun e w' => ∃ v', e = .returned v' ∧ EsIn w.heap.size w' v' (es.eraseIdx i) ∧ Below w.heap.size w w' := by
  obtain ⟨ao, cap, rfl, _, _, hc⟩ := h.form
  obtain ⟨i0, hi, hz0, hz1, hz2⟩ := info_parts Ybdv.info28
  clear h
  go_enter Ybdv.func17, Ybdv.ntmps17
  go_wp2_with (
    at_make
    refine wpList_make_own _ rfl (.const (.int .i64 0)) (.tmp 8) 23 rfl w.heap.size 28 i0 _ 2 Ybdv.underlying23 hi hz0 hz1 .i64 .i64 _ es.length rfl rfl ?_ ?_ ?_ ?_ ?_
    · rfl
    · rw [hz2]; omega
    · unfold maxLen; omega
    · omega)
  intro w1 ho1 hG1
  have hb1 := below_grow hG1
  go_wp2
  go_loopw [5, 6] (fun vo t wr => ∃ k m : Nat, k ≤ es.length ∧ t = .int .i64 k ∧ m ≤ k ∧ vo = .slice (some ⟨w.heap.size, 0, none⟩) m es.length ∧ wr.ownsRow w.heap.size 28 2 (.slice (some ⟨w.heap.size, 0, none⟩) m es.length) m (flatE ((es.take k).eraseIdx i)) ∧ Below w.heap.size w wr)
    (fun _ t _ => es.length - (intOf t).toNat)
  case atStart => exact ⟨0, 0, Nat.zero_le _, rfl, Nat.le_refl _, rfl, by simpa [flatE] using ho1, hb1⟩
  case round =>
    obtain ⟨k, m, hk, rfl, hm, rfl, ho, hb⟩ := hrel
    have lr := hb.size
    by_cases hlt : k < es.length
    · obtain ⟨g, rfl, hgl, q0, q1⟩ := hc k hlt
      have ik0 : (0 : Int) ≤ (k : Int) := by omega
      have ik1 : (k : Int) < (es.length : Int) := by omega
      have k0 : wr.cell? ⟨g, k * 2, none⟩ = some (.int .i64 es[k].1) := (hb.cell (p := ⟨g, k * 2, none⟩) hgl).trans q0
      have k1 : wr.cell? ⟨g, k * 2 + 1, none⟩ = some (.int .i64 es[k].2) := (hb.cell (p := ⟨g, k * 2 + 1, none⟩) hgl).trans q1
      have HT := hide (erase_take_succ (i := i) hlt)
      generalize es[k] = p at *
      clear q0 q1 hc
      by_cases hki : k = i
      · have t1 : ((k : Int) != (i : Int)) = false := by simp [hki]
        subst hki
        go_wp2
        go_roundw
        case rel => exact ⟨k + 1, m, by omega, by go_num, by omega, rfl, by rw [HT.out, if_pos rfl]; exact ho, hb⟩
        case measure => simp [intOf]; omega
      · have t1 : ((k : Int) != (i : Int)) = true := by rw [bne_iff_ne]; omega
        go_wp2_with (
          at_builtin
          refine wpList_append_fits _ rfl (.tmp 19) (.tmp 24) 23 rfl w.heap.size 28 i0 2 Ybdv.underlying23 hi hz1 w.heap.size m es.length _ rfl (ho.alloc _) ⟨wr.heap.size, 0, none⟩ 1 1 [.int .i64 p.1, .int .i64 p.2] rfl rfl ?_ ?_ ?_ ?_
          · intro j y hj
            rw [Addr.add_lit]
            match j, hj with
            | 0, hj => simp at hj; subst hj; simp
            | 1, hj => simp at hj; subst hj; simp
          · exact flatE_one [p]
          · omega)
        intro w2 ho2 hG2
        have hb2 : Below w.heap.size w w2 := (hb.alloc (by omega) _).grown hG2 (by simp; omega) (by simp)
        clear ho hb hG2
        go_wp2
        go_roundw
        case rel =>
          refine ⟨k + 1, m + 1, by omega, by go_num, by omega, rfl, ?_, hb2⟩
          rw [HT.out, if_neg hki, flatE_append]
          simpa [flatE] using ho2
        case measure => simp [intOf]; omega
    · have hkl : k = es.length := by omega
      have hfin : EsIn w.heap.size wr (.slice (some ⟨w.heap.size, 0, none⟩) m es.length) (es.eraseIdx i) := by
        rw [hkl, List.take_of_length_le (Nat.le_refl _)] at ho
        have := ho.1
        rw [flatE_length] at this
        unfold EsIn
        rw [show (es.eraseIdx i).length = m by omega]; exact ho
      clear hc hkl
      go_wp2
      go_ret
      exact ⟨_, rfl, hfin, hb⟩

end Go.Proofs.Ymwhbd
