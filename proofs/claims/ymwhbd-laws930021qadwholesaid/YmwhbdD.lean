import Derived.Test.YmwhbdC
namespace Go.Proofs.Ymwhbd
open Go.RowKit
set_option linter.unusedSimpArgs false
set_option linter.unusedVariables false

set_option maxHeartbeats 400000 in
theorem add_new {base : Nat} {es : List (Int × Int)} (hs : SortedE es) (hlen : es.length ≤ 1000000) (n : Int) (gb g cap : Nat) (u x : Int) (w : World)
    (hg : w.heap[gb]? = some (.cells #[.int .i64 n, .slice (some ⟨g, 0, none⟩) es.length cap] 31 (0, 0))) (h : EsIn base w (.slice (some ⟨g, 0, none⟩) es.length cap) es) (hbase : base ≤ w.heap.size)
    (h1 : 0 ≤ u) (h2 : u < n) (h3 : 0 ≤ x) (h4 : x < n) (hh : hasE es (u, x) = false) :
    Calls Ybdv.prog 15 #[.pointer (some ⟨gb, 0, none⟩), .int .i64 u, .int .i64 x] w fun e w' => e = .returned (.int .i64 0) ∧ ∃ v',
      w'.heap[gb]? = some (.cells #[.int .i64 n, v'] 31 (0, 0)) ∧ EsIn base w' v' (es.take (posE es (u, x)) ++ (u, x) :: es.drop (posE es (u, x))) ∧ w.grownBy w' (some gb) := by
  have c0 := gr_cell0 hg
  have c1 := gr_cell1 hg
  have z1 : gb < w.heap.size := lt_of_block hg
  have hple := posE_le es (u, x)
  have hcap : es.length ≤ cap := by
    rcases h.view with ⟨h', _⟩ | ⟨g', cap', h', _, _, hc, _⟩
    · simp at h'
    · simp at h'; omega
  obtain ⟨i0, hi, hz0, hz1, hz2⟩ := info_parts Ybdv.info28
  go_enter Ybdv.func15, Ybdv.ntmps15
  go_wp2
  go_region_held3 (fun w' => w'.cell? ⟨gb, 1, none⟩ = some (.slice (some ⟨g, 0, none⟩) es.length cap) ∧ w'.cell? ⟨w.heap.size, 0, none⟩ = some (.int .i64 u) ∧ w'.cell? ⟨w.heap.size, 1, none⟩ = some (.int .i64 x)) (go_keep)
    ((go_at_call 24; refine (find_keep (base := base) hs hlen _ _ _ ?_).mono ?_; exact (h.alloc _).drew; rintro e w2 ⟨rfl, hb2, hk2⟩))
  have hg2 : w2.heap[gb]? = some (.cells #[.int .i64 n, .slice (some ⟨g, 0, none⟩) es.length cap] 31 (0, 0)) := by
    rw [hb2.block gb (by show _ < (w.alloc _).heap.size; simp; omega)]; show (w.alloc _).heap[gb]? = _; rw [Below.heap_alloc _ _ _ z1]; exact hg
  have he2 : w2.heap[w.heap.size]? = some (.cells #[.int .i64 u, .int .i64 x] 28 (0, 0)) := by
    rw [hb2.block _ (by show _ < (w.alloc _).heap.size; simp)]; exact heap_alloc_new w _
  have hE2 : EsIn base w2 (.slice (some ⟨g, 0, none⟩) es.length cap) es := (h.alloc _).drew.below' hb2
  have hG2 : w.grownBy w2 (some gb) := grow_below (((Below.refl _ _).alloc (Nat.le_refl _) _).trans ((Below.refl _ _).drew.trans (hb2.mono (by show _ ≤ (w.alloc _).heap.size; simp)))) _
  have c2 := gr_cell1 hg2
  have hs2 := hG2.size
  clear hb2 hk2 c0 c1
  go_wp2_with (at_make; refine wpList_make_own _ rfl (.const (.int .i64 0)) (.tmp 51) 23 rfl base 28 i0 _ 2 Ybdv.underlying23 hi hz0 hz1 .i64 .i64 _ (es.length + 1) rfl rfl ?_ ?_ ?_ ?_ ?_)
  · omega
  · rw [hz2]; omega
  · unfold maxLen; omega
  · omega
  intro w3 ho3 hG3
  have l3 := hG3.size
  have hg3 := (hG3.block gb (by omega) (by simp)).trans hg2
  have he3 := (hG3.block w.heap.size (by have := lt_of_block he2; omega) (by simp)).trans he2
  have hE3 := hE2.kept hG3 (.inr (by simp [Value.ownBlock]))
  have lg2 := hE2.ownLt g rfl
  have le2 := lt_of_block he2
  have hGw3 := grow_trans hG2 hG3 (by simp)
  generalize hN : w2.heap.size = N at *
  have HN := hide hN
  clear hN hg2 he2 hE2 hG2 hG3 c2
  have c3 := gr_cell1 hg3
  go_wp2_with (at_builtin; refine wpList_append_fits_any _ rfl (.tmp 53) (.tmp 59) 23 rfl base 28 i0 2 Ybdv.underlying23 hi hz1 N 0 (es.length + 1) [] rfl ho3 _ _ _ (flatE (es.take (posE es (u, x)))) rfl ?_ ?_ ?_ ?_ ?_ ?_)
  · rw [flatE_length]; simp; omega
  · simp
  · intro ad had j y hj
    obtain rfl := Option.some.inj had
    rw [flatE_take, List.getElem?_take] at hj
    split at hj
    · have := hE3.cellsAt 0 j y (by simpa using hj)
      rw [Addr.add_lit]; simpa using this
    · simp at hj
  · exact flatE_one _
  · omega
  intro w4 ho4 hG4
  have l4 := hG4.size
  have hg4 := (hG4.block gb (by omega) (by simp; omega)).trans hg3
  have he4 := (hG4.block w.heap.size (by omega) (by simp; omega)).trans he3
  have hE4 := hE3.kept hG4 (.inr (by simp [Value.ownBlock]; omega))
  have hGw4 := grow_trans hGw3 hG4 (by simp; omega)
  clear hg3 he3 hE3 hG4 hGw3 c3 ho3
  have c4 := gr_cell1 hg4
  have d4 := gr_cell0 he4
  have d4' := gr_cell1 he4
  go_wp2_with (at_builtin; refine wpList_append_fits_any _ rfl (.tmp 61) (.tmp 63) 23 rfl base 28 i0 2 Ybdv.underlying23 hi hz1 N (posE es (u, x)) (es.length + 1) _ rfl (ho4.alloc _) _ _ _ [.int .i64 u, .int .i64 x] rfl ?_ ?_ ?_ ?_ ?_ ?_)
  · rfl
  · simp
  · intro ad had j y hj
    obtain rfl := Option.some.inj had
    rw [Addr.add_lit]
    match j, hj with
    | 0, hj => simp at hj; subst hj; simp
    | 1, hj => simp at hj; subst hj; simp
  · exact flatE_one [(u, x)]
  · omega
  intro w5 ho5 hG5
  have l5 := hG5.size
  simp at l5
  have hg5 := (hG5.block gb (by simp; omega) (by simp; omega)).trans ((Below.heap_alloc _ _ _ (by omega)).trans hg4)
  have hE5 := (hE4.alloc _).kept hG5 (.inr (by simp [Value.ownBlock]; omega))
  have hGw5 := grow_trans (grow_trans hGw4 (World.grownBy_alloc w4 _ none) (by simp)) hG5 (by simp; omega)
  clear hg4 he4 hE4 hG5 hGw4 c4 d4 d4' ho4
  have c5 := gr_cell1 hg5
  go_wp2_with (
    at_builtin
    refine wpList_append_fits_any _ rfl (.tmp 65) (.tmp 71) 23 rfl base 28 i0 2 Ybdv.underlying23 hi hz1 N (posE es (u, x) + 1) (es.length + 1) _ rfl ho5 _ _ _ (flatE (es.drop (posE es (u, x)))) rfl ?_ ?_ ?_ ?_ ?_ ?_
    · rw [flatE_length]; simp
    · split <;> simp
    · intro ad had j y hj
      split at had
      · exfalso
        have := (List.getElem?_eq_some_iff.1 hj).1
        rw [flatE_length] at this; simp at this; omega
      · obtain rfl := Option.some.inj had
        rw [Addr.add_lit]
        exact hE5.cellsAt _ j y hj
    · exact flatE_one _
    · omega
    intro w6 ho6 hG6
    have l6 := hG6.size
    have hg6 := (hG6.block gb (by omega) (by simp; omega)).trans hg5
    have hGw6 := grow_trans hGw5 hG6 (by simp; omega)
    have c6 := gr_cell1 hg6
    have f6 : w6.frozen? ⟨gb, 1, none⟩ = false := gr_free hg6)
  all_goals
    have hfin : EsIn base w6 (.slice (some ⟨N, 0, none⟩) (posE es (u, x) + 1 + (es.length - posE es (u, x))) (es.length + 1)) (es.take (posE es (u, x)) ++ (u, x) :: es.drop (posE es (u, x))) := by
      have hL : (es.take (posE es (u, x)) ++ (u, x) :: es.drop (posE es (u, x))).length = posE es (u, x) + 1 + (es.length - posE es (u, x)) := by simp; omega
      unfold EsIn
      rw [hL, flatE_append, flatE_cons]
      simpa using ho6
    go_ret
    exact ⟨rfl, _, gr_set1 hg6, ownsRow_setCell_other hfin (by simp [Value.ownBlock]; omega) _, grow_trans hGw6 (grow_setCell _ _ _ _) (by simp)⟩

set_option maxHeartbeats 400000 in
theorem add_nil {base : Nat} (n : Int) (gb : Nat) (u x : Int) (w : World)
    (hg : w.heap[gb]? = some (.cells #[.int .i64 n, .slice none 0 0] 31 (0, 0))) (hbase : base ≤ w.heap.size)
    (h1 : 0 ≤ u) (h2 : u < n) (h3 : 0 ≤ x) (h4 : x < n) :
    Calls Ybdv.prog 15 #[.pointer (some ⟨gb, 0, none⟩), .int .i64 u, .int .i64 x] w fun e w' => e = .returned (.int .i64 0) ∧ ∃ v',
      w'.heap[gb]? = some (.cells #[.int .i64 n, v'] 31 (0, 0)) ∧ EsIn base w' v' [(u, x)] ∧ w.grownBy w' (some gb) := by
  have c0 := gr_cell0 hg
  have c1 := gr_cell1 hg
  have z1 : gb < w.heap.size := lt_of_block hg
  have hp0 : posE [] (u, x) = 0 := rfl
  have hp1 : hasE [] (u, x) = false := rfl
  obtain ⟨i0, hi, hz0, hz1, hz2⟩ := info_parts Ybdv.info28
  go_enter Ybdv.func15, Ybdv.ntmps15
  go_wp2
  go_region_held3 (fun w' => w'.cell? ⟨gb, 1, none⟩ = some (.slice none 0 0) ∧ w'.cell? ⟨w.heap.size, 0, none⟩ = some (.int .i64 u) ∧ w'.cell? ⟨w.heap.size, 1, none⟩ = some (.int .i64 x)) (go_keep)
    ((go_at_call 24; refine (find_keep (base := base) (es := []) List.Pairwise.nil (by decide) _ _ _ (EsIn.nil _ _)).mono ?_; rintro e w2 ⟨rfl, hb2, hk2⟩))
  have hg2 : w2.heap[gb]? = some (.cells #[.int .i64 n, .slice none 0 0] 31 (0, 0)) := by
    rw [hb2.block gb (by show _ < (w.alloc _).heap.size; simp; omega)]; show (w.alloc _).heap[gb]? = _; rw [Below.heap_alloc _ _ _ z1]; exact hg
  have he2 : w2.heap[w.heap.size]? = some (.cells #[.int .i64 u, .int .i64 x] 28 (0, 0)) := by
    rw [hb2.block _ (by show _ < (w.alloc _).heap.size; simp)]; exact heap_alloc_new w _
  have hG2 : w.grownBy w2 (some gb) := grow_below (((Below.refl _ _).alloc (Nat.le_refl _) _).trans ((Below.refl _ _).drew.trans (hb2.mono (by show _ ≤ (w.alloc _).heap.size; simp)))) _
  have c2 := gr_cell1 hg2
  have hs2 := hG2.size
  have le2 := lt_of_block he2
  clear hb2 hk2 c0 c1
  go_wp2_with (
    at_make
    refine wpList_make_own _ rfl (.const (.int .i64 0)) (.tmp 51) 23 rfl base 28 i0 _ 2 Ybdv.underlying23 hi hz0 hz1 .i64 .i64 _ 1 rfl rfl ?_ ?_ ?_ ?_ ?_
    · rfl
    · rw [hz2]; omega
    · unfold maxLen; omega
    · omega)
  intro w3 ho3 hG3
  have l3 := hG3.size
  have hg3 := (hG3.block gb (by omega) (by simp)).trans hg2
  have he3 := (hG3.block w.heap.size (by omega) (by simp)).trans he2
  have hGw3 := grow_trans hG2 hG3 (by simp)
  generalize hN : w2.heap.size = N at *
  have HN := hide hN
  clear hN hg2 he2 hG2 hG3 c2
  have c3 := gr_cell1 hg3
  go_wp2_with (
    at_builtin
    refine wpList_append_fits_any _ rfl (.tmp 53) (.tmp 59) 23 rfl base 28 i0 2 Ybdv.underlying23 hi hz1 N 0 1 [] rfl ho3 _ _ _ [] rfl ?_ ?_ ?_ ?_ ?_ ?_
    · rfl
    · simp
    · simp
    · simp
    · omega)
  intro w4 ho4 hG4
  have l4 := hG4.size
  have hg4 := (hG4.block gb (by omega) (by simp; omega)).trans hg3
  have he4 := (hG4.block w.heap.size (by omega) (by simp; omega)).trans he3
  have hGw4 := grow_trans hGw3 hG4 (by simp; omega)
  have c4 := gr_cell1 hg4
  have d4 := gr_cell0 he4
  have d4' := gr_cell1 he4
  clear hg3 he3 hG4 hGw3 c3 ho3
  go_wp2_with (
    at_builtin
    refine wpList_append_fits_any _ rfl (.tmp 61) (.tmp 63) 23 rfl base 28 i0 2 Ybdv.underlying23 hi hz1 N 0 1 _ rfl (ho4.alloc _) _ _ _ [.int .i64 u, .int .i64 x] rfl ?_ ?_ ?_ ?_ ?_ ?_
    · rfl
    · simp
    · intro ad had j y hj
      obtain rfl := Option.some.inj had
      rw [Addr.add_lit]
      match j, hj with
      | 0, hj => simp at hj; subst hj; simp
      | 1, hj => simp at hj; subst hj; simp
    · exact flatE_one [(u, x)]
    · omega)
  intro w5 ho5 hG5
  have l5 := hG5.size
  simp at l5
  have hg5 := (hG5.block gb (by simp; omega) (by simp; omega)).trans ((Below.heap_alloc _ _ _ (by omega)).trans hg4)
  have hGw5 := grow_trans (grow_trans hGw4 (World.grownBy_alloc w4 _ none) (by simp)) hG5 (by simp; omega)
  clear hg4 he4 hG5 hGw4 c4 d4 d4' ho4
  have c5 := gr_cell1 hg5
  go_wp2_with (
    at_builtin
    refine wpList_append_fits_any _ rfl (.tmp 65) (.tmp 71) 23 rfl base 28 i0 2 Ybdv.underlying23 hi hz1 N 1 1 _ rfl ho5 _ _ _ [] rfl ?_ ?_ ?_ ?_ ?_ ?_
    · rfl
    · simp
    · simp
    · simp
    · omega)
  intro w6 ho6 hG6
  have l6 := hG6.size
  have hg6 := (hG6.block gb (by omega) (by simp; omega)).trans hg5
  have hGw6 := grow_trans hGw5 hG6 (by simp; omega)
  have c6 := gr_cell1 hg6
  have f6 : w6.frozen? ⟨gb, 1, none⟩ = false := gr_free hg6
  go_wp2
  go_ret
  have hfin : EsIn base w6 (.slice (some ⟨N, 0, none⟩) 1 1) [(u, x)] := by unfold EsIn; simpa [flatE] using ho6
  exact ⟨rfl, _, gr_set1 hg6, ownsRow_setCell_other hfin (by simp [Value.ownBlock]; omega) _, grow_trans hGw6 (grow_setCell _ _ _ _) (by simp)⟩

/-- '(*Graph).AddEdge': the graph's block, its edges before and behind the call. -/
theorem add_any {base : Nat} {v : Value} {es : List (Int × Int)} (hs : SortedE es) (hlen : es.length ≤ 1000000) (n : Int) (gb : Nat) (u x : Int) (w : World)
    (hg : w.heap[gb]? = some (.cells #[.int .i64 n, v] 31 (0, 0))) (h : EsIn base w v es) (hbase : base ≤ w.heap.size) :
    Calls Ybdv.prog 15 #[.pointer (some ⟨gb, 0, none⟩), .int .i64 u, .int .i64 x] w fun e w' => e = .returned (.int .i64 (addCode n es u x)) ∧ ∃ v',
      w'.heap[gb]? = some (.cells #[.int .i64 n, v'] 31 (0, 0)) ∧ EsIn base w' v' (addE n es u x) ∧ w.grownBy w' (some gb) := by
  by_cases hr : 0 ≤ u ∧ u < n ∧ 0 ≤ x ∧ x < n
  · have hin : inR n u x = true := by simpa [inR] using hr
    obtain ⟨h1, h2, h3, h4⟩ := hr
    cases hh : hasE es (u, x)
    · have e1 : addCode n es u x = 0 := by simp [addCode, hin, hh]
      have e2 : addE n es u x = es.take (posE es (u, x)) ++ (u, x) :: es.drop (posE es (u, x)) := by simp [addE, hin, insE, hh]
      rw [e1, e2]
      rcases h.view with ⟨rfl, rfl⟩ | ⟨g, cap, rfl, _, hg', _, _, hc⟩
      · exact add_nil n gb u x w hg hbase h1 h2 h3 h4
      · exact add_new hs hlen n gb g cap u x w hg h hbase h1 h2 h3 h4 hh
    · have e1 : addCode n es u x = 1 := by simp [addCode, hin, hh]
      have e2 : addE n es u x = es := by simp [addE, hin, insE, hh]
      rw [e1, e2]
      refine (add_has hs hlen n gb v u x w hg h h1 h2 h3 h4 hh).mono ?_
      rintro e w' ⟨rfl, hb⟩
      exact ⟨rfl, v, (hb.block gb (lt_of_block hg)).trans hg, h.below' hb, grow_below hb _⟩
  · have hin : inR n u x = false := by simpa [inR] using hr
    have e1 : addCode n es u x = 2 := by simp [addCode, hin]
    have e2 : addE n es u x = es := by simp [addE, hin]
    rw [e1, e2]
    refine (add_out n gb v u x w hg (by omega)).mono ?_
    rintro e w' ⟨rfl, rfl⟩
    exact ⟨rfl, v, hg, h, World.grownBy.refl _ _⟩

end Go.Proofs.Ymwhbd
