import Derived.Test.YmwhbdF
namespace Go.Proofs.Ymwhbd
open Go.RowKit
set_option linter.unusedSimpArgs false
set_option linter.unusedVariables false

theorem posE_eq_of {es : List (Int × Int)} {e : Int × Int} {k : Nat} (hk : k ≤ posE es e) (h : ∀ (hk : k < es.length), ltE es[k] e = false) : posE es e = k := by
  rcases Nat.eq_or_lt_of_le hk with h' | h'
  · exact h'.symm
  · have hl := posE_le es e
    have := posE_lt h' (by omega)
    rw [h (by omega)] at this; cases this

theorem posE_succ {es : List (Int × Int)} {e : Int × Int} {k : Nat} (hk : k ≤ posE es e) (hl : k < es.length) (h : ltE es[k] e = true) : k + 1 ≤ posE es e := by
  rcases Nat.eq_or_lt_of_le hk with h' | h'
  · exfalso
    have := posE_at (es := es) (e := e) (by omega)
    simp only [← h'] at this
    rw [h] at this; cases this
  · exact h'

theorem dropCells {base : Nat} {w : World} {g cap k : Nat} {es : List (Int × Int)} {ao : Option Addr} (hE : EsIn base w (.slice (some ⟨g, 0, none⟩) es.length cap) es) (hcap : es.length ≤ cap) (hao : ¬ cap = k → ao = some ⟨g, k * 2, none⟩) :
    ∀ ad, ao = some ad → ∀ j u, (flatE (es.drop k))[j]? = some u → w.cell? (ad.add j) = some u := by
  intro ad had j y hj
  by_cases hk : cap = k
  · exfalso
    have := (List.getElem?_eq_some_iff.1 hj).1
    rw [flatE_length] at this; simp at this; omega
  · rw [hao hk] at had
    obtain rfl := Option.some.inj had
    rw [Addr.add_lit]
    exact hE.cellsAt _ j y hj

set_option maxHeartbeats 1000000 in
/-- 'zzs930021qabins': the list with e put in its place. -/
theorem ins_some {base : Nat} (es : List (Int × Int)) (hlen : es.length ≤ 1000000) (g cap : Nat) (x y : Int) (w : World) (h : EsIn base w (.slice (some ⟨g, 0, none⟩) es.length cap) es) (hbase : base ≤ w.heap.size) :
    Calls Ybdv.prog 8 #[.slice (some ⟨g, 0, none⟩) es.length cap, .agg #[.int .i64 x, .int .i64 y]] w fun e w' =>
      ∃ v', e = .returned v' ∧ EsIn base w' v' (insE es (x, y)) ∧ Below w.heap.size w w' := by
  have hple := posE_le es (x, y)
  have hgw := h.ownLt g rfl
  obtain ⟨i0, hi, hz0, hz1, hz2⟩ := info_parts Ybdv.info28
  have hcap : es.length ≤ cap := by
    rcases h.view with ⟨h', _⟩ | ⟨g', cap', h', _, _, hc, _⟩
    · simp at h'
    · simp at h'; omega
  have hc : ∀ i (hi : i < es.length), w.cell? ⟨g, i * 2, none⟩ = some (.int .i64 es[i].1) ∧ w.cell? ⟨g, i * 2 + 1, none⟩ = some (.int .i64 es[i].2) := by
    rcases h.view with ⟨h', _⟩ | ⟨g', cap', h', _, _, _, _, hc⟩
    · simp at h'
    · simp at h'; obtain ⟨rfl, rfl⟩ := h'; exact hc
  go_enter Ybdv.func8, Ybdv.ntmps8
  go_wp2
  go_loopw [5] (fun i wr => ∃ k m : Nat, k ≤ posE es (x, y) ∧ i = .int .i64 k ∧ wr = (w.alloc (.cells #[.int .i64 x, .int .i64 y] 28)).drewN m) (fun i _ => es.length - (intOf i).toNat)
  case atStart => exact ⟨0, 0, Nat.zero_le _, rfl, rfl⟩
  case round =>
    obtain ⟨k, m, hk, rfl, rfl⟩ := hrel
    have z1 : g < (w.alloc (.cells #[.int .i64 x, .int .i64 y] 28)).heap.size := by simp; omega
    have b0 : (w.alloc (.cells #[.int .i64 x, .int .i64 y] 28)).cell? ⟨w.heap.size, 0, none⟩ = some (.int .i64 x) := by simp
    have b1 : (w.alloc (.cells #[.int .i64 x, .int .i64 y] 28)).cell? ⟨w.heap.size, 1, none⟩ = some (.int .i64 y) := by simp
    have heq := eql28
    have hgd := guard28
    have hkl : k ≤ es.length := by omega
    -- the ways through a round, and out of the loop
    have hways : (∃ p : Int × Int, (w.alloc (.cells #[.int .i64 x, .int .i64 y] 28)).cell? ⟨g, k * 2, none⟩ = some (.int .i64 p.1) ∧ (w.alloc (.cells #[.int .i64 x, .int .i64 y] 28)).cell? ⟨g, k * 2 + 1, none⟩ = some (.int .i64 p.2) ∧ (k : Int) < (es.length : Int) ∧
          ((p.1 < x ∧ k + 1 ≤ posE es (x, y)) ∨ (decide (p.1 < x) = false ∧ (p.1 == x) = true ∧ p.2 < y ∧ k + 1 ≤ posE es (x, y)) ∨ (decide (p.1 < x) = false ∧ (p.1 == x) = true ∧ decide (p.2 < y) = false ∧ (p.2 == y) = true ∧ Hid (insE es (x, y) = es)))) ∨
        (Hid (posE es (x, y) = k ∧ hasE es (x, y) = false) ∧ ((∃ p : Int × Int, (w.alloc (.cells #[.int .i64 x, .int .i64 y] 28)).cell? ⟨g, k * 2, none⟩ = some (.int .i64 p.1) ∧ (w.alloc (.cells #[.int .i64 x, .int .i64 y] 28)).cell? ⟨g, k * 2 + 1, none⟩ = some (.int .i64 p.2) ∧ (k : Int) < (es.length : Int) ∧
          ((decide (p.1 < x) = false ∧ (p.1 == x) = false ∧ (p.1 == x) = false) ∨ (decide (p.1 < x) = false ∧ (p.1 == x) = true ∧ decide (p.2 < y) = false ∧ (p.2 == y) = false))) ∨ (decide ((k : Int) < (es.length : Int)) = false ∧ ¬ k < es.length))) := by
      by_cases hlt : k < es.length
      · obtain ⟨q0, q1⟩ := hc k hlt
        have k0 : (w.alloc (.cells #[.int .i64 x, .int .i64 y] 28)).cell? ⟨g, k * 2, none⟩ = some (.int .i64 es[k].1) := (World.cell?_alloc_lt _ _ _ (by simpa using hgw)).trans q0
        have k1 : (w.alloc (.cells #[.int .i64 x, .int .i64 y] 28)).cell? ⟨g, k * 2 + 1, none⟩ = some (.int .i64 es[k].2) := (World.cell?_alloc_lt _ _ _ (by simpa using hgw)).trans q1
        have i1 : (k : Int) < (es.length : Int) := by omega
        by_cases hq : ltE es[k] (x, y) = true
        · have hk1 := posE_succ hk hlt hq
          rw [ltE_iff] at hq
          simp only at hq
          by_cases hp : es[k].1 < x
          · exact .inl ⟨es[k], k0, k1, i1, .inl ⟨hp, hk1⟩⟩
          · exact .inl ⟨es[k], k0, k1, i1, .inr (.inl ⟨by simpa using hp, by rw [beq_iff_eq]; omega, by omega, hk1⟩)⟩
        · have hpk : posE es (x, y) = k := posE_eq_of hk (fun _ => by simpa using hq)
          have hhas : hasE es (x, y) = decide (es[k] = (x, y)) := by unfold hasE; rw [hpk, List.getElem?_eq_getElem hlt]; simp
          rw [ltE_iff] at hq
          simp only at hq
          have t1 : decide (es[k].1 < x) = false := by rw [decide_eq_false_iff_not]; omega
          by_cases hp : es[k].1 = x
          · have t2 : (es[k].1 == x) = true := by simpa using hp
            have t3 : decide (es[k].2 < y) = false := by rw [decide_eq_false_iff_not]; omega
            by_cases hp2 : es[k].2 = y
            · refine .inl ⟨es[k], k0, k1, i1, .inr (.inr ⟨t1, t2, t3, by simp [hp2], ?_⟩)⟩
              show _ = _
              have : hasE es (x, y) = true := by rw [hhas, pairB]; simp [hp, hp2]
              unfold insE; rw [if_pos this]
            · have t4 : (es[k].1 == x && es[k].2 == y) = false := by simp [hp, hp2]
              exact .inr ⟨⟨hpk, by rw [hhas, pairB]; exact t4⟩, .inl ⟨es[k], k0, k1, i1, .inr ⟨t1, t2, t3, by simp [hp2]⟩⟩⟩
          · have t2 : (es[k].1 == x) = false := by simpa using hp
            have t4 : (es[k].1 == x && es[k].2 == y) = false := by simp [hp]
            exact .inr ⟨⟨hpk, by rw [hhas, pairB]; exact t4⟩, .inl ⟨es[k], k0, k1, i1, .inl ⟨t1, t2, t2⟩⟩⟩
      · have hpk : posE es (x, y) = k := posE_eq_of hk (fun h => absurd h hlt)
        exact .inr ⟨⟨hpk, by unfold hasE; rw [hpk, List.getElem?_eq_none (by omega)]; simp⟩, .inr ⟨by rw [decide_eq_false_iff_not]; omega, hlt⟩⟩
    have ik0 : (0 : Int) ≤ (k : Int) := by omega
    clear hc
    rcases hways with ⟨p, k0, k1, i1, ⟨hp1, hk1⟩ | ⟨t1, t2, hp3, hk1⟩ | ⟨t1, t2, t3, t4, HI⟩⟩ | ⟨HP, hw⟩
    · go_wp2
      go_quiet (fail)
      go_wp2
      go_roundw
      case rel => exact ⟨k + 1, _, by omega, by go_num, rfl⟩
      case measure => simp [intOf]; omega
    · go_wp2
      go_quiet (fail)
      go_wp2
      go_roundw
      case rel => exact ⟨k + 1, _, by omega, by go_num, rfl⟩
      case measure => simp [intOf]; omega
    · go_wp2
      go_quiet (fail)
      go_wp2
      go_quiet (fail)
      go_wp2
      go_ret
      exact ⟨_, rfl, by rw [HI.out]; exact h.alloc _, below_drewN (below_drewN (below_drewN ((Below.refl _ _).alloc (Nat.le_refl _) _) _) _) _⟩
    · rcases hw with ⟨p, k0, k1, i1, ⟨t1, t2, t4⟩ | ⟨t1, t2, t3, t4⟩⟩ | ⟨hd, hd'⟩
      all_goals
        go_wp2
        go_quiet (fail)
        go_wp2
        go_quiet (fail)
        go_wp2_with (
          at_make
          refine wpList_make_own _ rfl (.const (.int .i64 0)) (.tmp 58) 23 rfl base 28 i0 _ 2 Ybdv.underlying23 hi hz0 hz1 .i64 .i64 _ (es.length + 1) rfl rfl ?_ ?_ ?_ ?_ ?_
          · omega
          · rw [hz2]; omega
          · unfold maxLen; omega
          · simp; omega)
        intro w3 ho3 hG3
        have l3 := hG3.size
        simp at l3
        have hGw3 := grow_trans (grow_drewN (World.grownBy_alloc w _ none) _) hG3 (by simp)
        have hE3 : EsIn base w3 (.slice (some ⟨g, 0, none⟩) es.length cap) es := h.kept hGw3 (.inr (by simp [Value.ownBlock]))
        have he3 := (hG3.block w.heap.size (by simp) (by simp)).trans (heap_alloc_new w _)
        clear hG3 b0 b1 h
        go_wp2_with (
          at_builtin
          refine wpList_append_fits_any _ rfl (.tmp 60) (.tmp 63) 23 rfl base 28 i0 2 Ybdv.underlying23 hi hz1 (w.heap.size + 1) 0 (es.length + 1) [] rfl ho3 _ _ _ (flatE (es.take k)) rfl ?_ ?_ ?_ ?_ ?_ ?_
          · rw [flatE_length]; simp; omega
          · simp
          · intro ad had j y hj
            obtain rfl := Option.some.inj had
            rw [flatE_take, List.getElem?_take] at hj
            split at hj
            · have := hE3.cellsAt 0 j y (by simpa using hj)
              rw [Addr.add_lit]; simpa using this
            · simp at hj
          · exact flatE_one _
          · omega)
        intro w4 ho4 hG4
        have l4 := hG4.size
        have hE4 := hE3.kept hG4 (.inr (by simp [Value.ownBlock]; omega))
        have hGw4 := grow_trans hGw3 hG4 (by simp)
        have he4 := (hG4.block w.heap.size (by omega) (by simp)).trans he3
        have d4 := gr_cell0 he4
        have d4' := gr_cell1 he4
        clear hG4 hE3 hGw3 he3 ho3
        go_wp2_with (
          at_builtin
          refine wpList_append_fits_any _ rfl (.tmp 65) (.tmp 67) 23 rfl base 28 i0 2 Ybdv.underlying23 hi hz1 (w.heap.size + 1) k (es.length + 1) _ rfl (ho4.alloc _) _ _ _ [.int .i64 x, .int .i64 y] rfl ?_ ?_ ?_ ?_ ?_ ?_
          · rfl
          · simp
          · intro ad had j y hj
            obtain rfl := Option.some.inj had
            rw [Addr.add_lit]
            match j, hj with
            | 0, hj => simp at hj; subst hj; simp
            | 1, hj => simp at hj; subst hj; simp
          · exact flatE_one [(x, y)]
          · omega)
        intro w5 ho5 hG5
        have l5 := hG5.size
        simp at l5
        have hE5 := (hE4.alloc _).kept hG5 (.inr (by simp [Value.ownBlock]; omega))
        have hGw5 := grow_trans (grow_trans hGw4 (World.grownBy_alloc w4 _ none) (by simp)) hG5 (by simp)
        clear he4 hE4 hG5 hGw4 d4 d4' ho4
        go_wp2_with (
          at_builtin
          refine wpList_append_fits_any _ rfl (.tmp 69) (.tmp 72) 23 rfl base 28 i0 2 Ybdv.underlying23 hi hz1 (w.heap.size + 1) (k + 1) (es.length + 1) _ rfl ho5 _ _ _ (flatE (es.drop k)) rfl ?_ ?_ ?_ ?_ ?_ ?_
          · rw [flatE_length]; simp
          · intro h'; first | (simp at h'; done) | (split at h' <;> simp at h')
          · exact dropCells hE5 hcap (by intro h'; first | rfl | simp [h'])
          · exact flatE_one _
          · omega
          intro w6 ho6 hG6
          have hGw6 := grow_trans hGw5 hG6 (by simp))
        all_goals
          have hfin : EsIn base w6 (.slice (some ⟨w.heap.size + 1, 0, none⟩) (k + 1 + (es.length - k)) (es.length + 1)) (insE es (x, y)) := by
            obtain ⟨hp1, hp2⟩ := HP.out
            have hI : insE es (x, y) = es.take k ++ (x, y) :: es.drop k := by unfold insE; rw [hp2, hp1]; simp
            have hL : (es.take k ++ (x, y) :: es.drop k).length = k + 1 + (es.length - k) := by simp; omega
            rw [hI]
            unfold EsIn
            rw [hL, flatE_append, flatE_cons]
            simpa using ho6
          go_ret
          exact ⟨_, rfl, hfin, below_grow hGw6⟩

set_option maxHeartbeats 400000 in
theorem ins_nil {base : Nat} (x y : Int) (w : World) (hbase : base ≤ w.heap.size) :
    Calls Ybdv.prog 8 #[.slice none 0 0, .agg #[.int .i64 x, .int .i64 y]] w fun e w' =>
      ∃ v', e = .returned v' ∧ EsIn base w' v' [(x, y)] ∧ Below w.heap.size w w' := by
  obtain ⟨i0, hi, hz0, hz1, hz2⟩ := info_parts Ybdv.info28
  have hd : decide ((0 : Int) < (0 : Int)) = false := by simp
  go_enter Ybdv.func8, Ybdv.ntmps8
  go_wp2
  refine wp_loop_rounds 1 ?_
  rw [rounds_succ]
  go_wp2
  go_quiet (fail)
  go_wp2
  go_quiet (fail)
  go_wp2_with (
    at_make
    refine wpList_make_own _ rfl (.const (.int .i64 0)) (.tmp 58) 23 rfl base 28 i0 _ 2 Ybdv.underlying23 hi hz0 hz1 .i64 .i64 _ 1 rfl rfl ?_ ?_ ?_ ?_ ?_
    · rfl
    · rw [hz2]; omega
    · unfold maxLen; omega
    · simp; omega)
  intro w3 ho3 hG3
  have l3 := hG3.size
  simp at l3
  have hGw3 := grow_trans (grow_drewN (World.grownBy_alloc w _ none) _) hG3 (by simp)
  have he3 := (hG3.block w.heap.size (by simp) (by simp)).trans (heap_alloc_new w _)
  clear hG3
  go_wp2_with (
    at_builtin
    refine wpList_append_fits_any _ rfl (.tmp 60) (.tmp 63) 23 rfl base 28 i0 2 Ybdv.underlying23 hi hz1 (w.heap.size + 1) 0 1 [] rfl ho3 _ _ _ [] rfl ?_ ?_ ?_ ?_ ?_ ?_
    · rfl
    · simp
    · simp
    · simp
    · omega)
  intro w4 ho4 hG4
  have l4 := hG4.size
  have hGw4 := grow_trans hGw3 hG4 (by simp)
  have he4 := (hG4.block w.heap.size (by omega) (by simp)).trans he3
  have d4 := gr_cell0 he4
  have d4' := gr_cell1 he4
  clear hG4 hGw3 he3 ho3
  go_wp2_with (
    at_builtin
    refine wpList_append_fits_any _ rfl (.tmp 65) (.tmp 67) 23 rfl base 28 i0 2 Ybdv.underlying23 hi hz1 (w.heap.size + 1) 0 1 _ rfl (ho4.alloc _) _ _ _ [.int .i64 x, .int .i64 y] rfl ?_ ?_ ?_ ?_ ?_ ?_
    · rfl
    · simp
    · intro ad had j y hj
      obtain rfl := Option.some.inj had
      rw [Addr.add_lit]
      match j, hj with
      | 0, hj => simp at hj; subst hj; simp
      | 1, hj => simp at hj; subst hj; simp
    · exact flatE_one [(x, y)]
    · omega)
  intro w5 ho5 hG5
  have l5 := hG5.size
  simp at l5
  have hGw5 := grow_trans (grow_trans hGw4 (World.grownBy_alloc w4 _ none) (by simp)) hG5 (by simp)
  clear he4 hG5 hGw4 d4 d4' ho4
  go_wp2_with (
    at_builtin
    refine wpList_append_fits_any _ rfl (.tmp 69) (.tmp 72) 23 rfl base 28 i0 2 Ybdv.underlying23 hi hz1 (w.heap.size + 1) 1 1 _ rfl ho5 _ _ _ [] rfl ?_ ?_ ?_ ?_ ?_ ?_
    · rfl
    · simp
    · simp
    · simp
    · omega)
  intro w6 ho6 hG6
  have hGw6 := grow_trans hGw5 hG6 (by simp)
  have hfin : EsIn base w6 (.slice (some ⟨w.heap.size + 1, 0, none⟩) 1 1) [(x, y)] := by unfold EsIn; simpa [flatE] using ho6
  go_wp2
  go_ret
  exact ⟨_, rfl, hfin, below_grow hGw6⟩

theorem ins_any {base : Nat} {v : Value} {es : List (Int × Int)} (hlen : es.length ≤ 1000000) (x y : Int) (w : World) (h : EsIn base w v es) (hbase : base ≤ w.heap.size) :
    Calls Ybdv.prog 8 #[v, .agg #[.int .i64 x, .int .i64 y]] w fun e w' =>
      ∃ v', e = .returned v' ∧ EsIn base w' v' (insE es (x, y)) ∧ Below w.heap.size w w' := by
  rcases h.view with ⟨rfl, rfl⟩ | ⟨g, cap, rfl, _, hgl, _, _, hc⟩
  · exact ins_nil x y w hbase
  · exact ins_some es hlen g cap x y w h hbase

end Go.Proofs.Ymwhbd
