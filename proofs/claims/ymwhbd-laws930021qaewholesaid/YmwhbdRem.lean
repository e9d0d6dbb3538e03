import Derived.Test.YmwhbdG
namespace Go.Proofs.Ymwhbd
open Go.RowKit
set_option linter.unusedSimpArgs false
set_option linter.unusedVariables false

set_option maxHeartbeats 400000 in
/-- '(*Graph).HasEdge'. -/
theorem has_any {base : Nat} {es : List (Int × Int)} (hs : SortedE es) (hlen : es.length ≤ 1000000) (n : Int) (gb : Nat) (v : Value) (u x : Int) (w : World)
    (hg : w.heap[gb]? = some (.cells #[.int .i64 n, v] 31 (0, 0))) (h : EsIn base w v es) :
    Calls Ybdv.prog 18 #[.pointer (some ⟨gb, 0, none⟩), .int .i64 u, .int .i64 x] w fun e w' => e = .returned (.bool (hasE es (u, x))) ∧ Below w.heap.size w w' := by
  have c1 := gr_cell1 hg
  obtain ⟨ao, cap, rfl⟩ := h.shape
  go_enter Ybdv.func18, Ybdv.ntmps18
  go_wp2_with (
    go_at_call 24
    refine (find_any hs hlen _ _ _ h).mono ?_
    rintro e w2 ⟨rfl, hb2⟩)
  go_ret
  exact ⟨rfl, hb2⟩

set_option maxHeartbeats 400000 in
theorem rem_not {base : Nat} {es : List (Int × Int)} (hs : SortedE es) (hlen : es.length ≤ 1000000) (n : Int) (gb : Nat) (v : Value) (u x : Int) (w : World)
    (hg : w.heap[gb]? = some (.cells #[.int .i64 n, v] 31 (0, 0))) (h : EsIn base w v es) (hh : hasE es (u, x) = false) :
    Calls Ybdv.prog 16 #[.pointer (some ⟨gb, 0, none⟩), .int .i64 u, .int .i64 x] w fun e w' => e = .returned (.bool false) ∧ Below w.heap.size w w' := by
  have c1 := gr_cell1 hg
  obtain ⟨ao, cap, rfl⟩ := h.shape
  go_enter Ybdv.func16, Ybdv.ntmps16
  go_wp2_with (
    go_at_call 24
    refine (find_any hs hlen _ _ _ h).mono ?_
    rintro e w2 ⟨rfl, hb2⟩)
  go_ret
  exact ⟨rfl, hb2⟩

set_option maxHeartbeats 400000 in
theorem rem_has {base : Nat} {es : List (Int × Int)} (hs : SortedE es) (hlen : es.length ≤ 1000000) (n : Int) (gb g cap : Nat) (u x : Int) (w : World)
    (hg : w.heap[gb]? = some (.cells #[.int .i64 n, .slice (some ⟨g, 0, none⟩) es.length cap] 31 (0, 0))) (h : EsIn base w (.slice (some ⟨g, 0, none⟩) es.length cap) es)
    (hh : hasE es (u, x) = true) :
    Calls Ybdv.prog 16 #[.pointer (some ⟨gb, 0, none⟩), .int .i64 u, .int .i64 x] w fun e w' => e = .returned (.bool true) ∧ ∃ v',
      w'.heap[gb]? = some (.cells #[.int .i64 n, v'] 31 (0, 0)) ∧ EsIn w.heap.size w' v' (es.take (posE es (u, x)) ++ es.drop (posE es (u, x) + 1)) ∧ w.grownBy w' (some gb) := by
  have c1 := gr_cell1 hg
  have z1 : gb < w.heap.size := lt_of_block hg
  have hple : posE es (u, x) < es.length := by
    have := hh; unfold hasE at this; rw [decide_eq_true_iff] at this; exact (List.getElem?_eq_some_iff.1 this).1
  have hcap : es.length ≤ cap := by
    rcases h.view with ⟨h', _⟩ | ⟨g', cap', h', _, _, hc, _⟩
    · simp at h'
    · simp at h'; omega
  obtain ⟨i0, hi, hz0, hz1, hz2⟩ := info_parts Ybdv.info28
  generalize hp : posE es (u, x) = k at *
  have HP := hide hp
  go_enter Ybdv.func16, Ybdv.ntmps16
  go_wp2_with (
    first
    | (go_at_call 24
       refine (find_any hs hlen _ _ _ h).mono ?_
       rintro e w2 ⟨rfl, hb2⟩
       have hg2 := (hb2.block gb z1).trans hg
       have c2 := gr_cell1 hg2)
    | (at_make
       refine wpList_make_own _ rfl (.const (.int .i64 0)) (.tmp 28) 23 rfl w.heap.size 28 i0 _ 2 Ybdv.underlying23 hi hz0 hz1 .i64 .i64 _ (es.length - 1) rfl rfl ?_ ?_ ?_ ?_ ?_
       · omega
       · rw [hz2]; omega
       · unfold maxLen; omega
       · exact hb2.size))
  intro w3 ho3 hG3
  have l2 := hb2.size
  have l3 := hG3.size
  have hg3 := (hG3.block gb (by omega) (by simp)).trans hg2
  have hE3 := (h.below' hb2).below' (below_grow hG3)
  have lg2 : g < w2.heap.size := (h.below' hb2).ownLt g rfl
  have lN : w2.heap.size < w3.heap.size := (World.ownsRow.lt ho3 _ rfl).2
  have hGw3 : w.grownBy w3 (some gb) := grow_trans (grow_below hb2 _) hG3 (by simp)
  generalize hN : w2.heap.size = N at *
  clear hN hg2 hb2 hG3 c2 c1 hp
  have c3 := gr_cell1 hg3
  go_wp2_with (
    at_builtin
    refine wpList_append_fits_any _ rfl (.tmp 30) (.tmp 36) 23 rfl w.heap.size 28 i0 2 Ybdv.underlying23 hi hz1 N 0 (es.length - 1) [] rfl ho3 _ _ _ (flatE (es.take k)) rfl ?_ ?_ ?_ ?_ ?_ ?_
    · rw [flatE_length]; simp; omega
    · simp
    · intro ad had j y hj
      obtain rfl := Option.some.inj had
      rw [flatE_take, List.getElem?_take] at hj
      split at hj
      · have := hE3.cellsAt 0 j y (by simpa using hj)
        rw [Addr.add_lit]; simpa using this
      · simp at hj
    · exact flatE_one _
    · omega)
  intro w4 ho4 hG4
  have l4 := hG4.size
  have hg4 := (hG4.block gb (by omega) (by simp; omega)).trans hg3
  have hE4 := hE3.kept hG4 (.inr (by simp [Value.ownBlock]; omega))
  have hGw4 := grow_trans hGw3 hG4 (by simp; omega)
  clear hg3 hE3 hG4 hGw3 c3 ho3
  have c4 := gr_cell1 hg4
  go_wp2_with (
    at_builtin
    refine wpList_append_fits_any _ rfl (.tmp 38) (.tmp 45) 23 rfl w.heap.size 28 i0 2 Ybdv.underlying23 hi hz1 N k (es.length - 1) _ rfl ho4 _ _ _ (flatE (es.drop (k + 1))) rfl ?_ ?_ ?_ ?_ ?_ ?_
    · rw [flatE_length]; simp
    · intro h'; first | (simp at h'; done) | (split at h' <;> simp at h')
    · exact dropCells hE4 hcap (by intro h'; first | rfl | simp [h'])
    · exact flatE_one _
    · omega
    intro w6 ho6 hG6
    have l6 := hG6.size
    have hg6 := (hG6.block gb (by omega) (by simp; omega)).trans hg4
    have hGw6 := grow_trans hGw4 hG6 (by simp; omega)
    have c6 := gr_cell1 hg6
    have f6 : w6.frozen? ⟨gb, 1, none⟩ = false := gr_free hg6)
  all_goals
    have hfin : EsIn w.heap.size w6 (.slice (some ⟨N, 0, none⟩) (k + (es.length - (k + 1))) (es.length - 1)) (es.take k ++ es.drop (k + 1)) := by
      have hL : (es.take k ++ es.drop (k + 1)).length = k + (es.length - (k + 1)) := by simp; omega
      unfold EsIn
      rw [hL, flatE_append]
      exact ho6
    go_ret
    exact ⟨rfl, _, gr_set1 hg6, ownsRow_setCell_other hfin (by simp [Value.ownBlock]; omega) _, grow_trans hGw6 (grow_setCell _ _ _ _) (by simp)⟩

/-- '(*Graph).RemoveEdge'. -/
theorem rem_any {base : Nat} {v : Value} {es : List (Int × Int)} (hs : SortedE es) (hlen : es.length ≤ 1000000) (n : Int) (gb : Nat) (u x : Int) (w : World)
    (hg : w.heap[gb]? = some (.cells #[.int .i64 n, v] 31 (0, 0))) (h : EsIn base w v es) (hbase : base ≤ w.heap.size) :
    Calls Ybdv.prog 16 #[.pointer (some ⟨gb, 0, none⟩), .int .i64 u, .int .i64 x] w fun e w' => e = .returned (.bool (hasE es (u, x))) ∧ ∃ v',
      w'.heap[gb]? = some (.cells #[.int .i64 n, v'] 31 (0, 0)) ∧ EsIn base w' v' (delE es (u, x)) ∧ w.grownBy w' (some gb) ∧ (v' = v ∨ ∀ k, v'.ownBlock = some k → w.heap.size ≤ k) := by
  cases hh : hasE es (u, x)
  · have e2 : delE es (u, x) = es := by simp [delE, hh]
    rw [e2]
    refine (rem_not hs hlen n gb v u x w hg h hh).mono ?_
    rintro e w' ⟨rfl, hb⟩
    exact ⟨rfl, v, (hb.block gb (lt_of_block hg)).trans hg, h.below' hb, grow_below hb _, .inl rfl⟩
  · have e2 : delE es (u, x) = es.take (posE es (u, x)) ++ es.drop (posE es (u, x) + 1) := by simp [delE, hh]
    rw [e2]
    rcases h.view with ⟨rfl, rfl⟩ | ⟨g, cap, rfl, _, hg', _, _, hc⟩
    · simp [hasE] at hh
    · refine (rem_has hs hlen n gb g cap u x w hg h hh).mono ?_
      rintro e w' ⟨rfl, v', a1, a2, a3⟩
      exact ⟨rfl, v', a1, a2.rebase (fun k hk => by have := (World.ownsRow.lt a2 k hk).1; omega), a3, .inr fun k hk => (World.ownsRow.lt a2 k hk).1⟩

end Go.Proofs.Ymwhbd
