import Derived.Test.YmwhbdD
namespace Go.Proofs.Ymwhbd
open Go.RowKit
set_option linter.unusedSimpArgs false
set_option linter.unusedVariables false

theorem EsIn.shape {base : Nat} {w : World} {v : Value} {es : List (Int × Int)} (h : EsIn base w v es) : ∃ ao cap, v = .slice ao es.length cap := by
  rcases h.view with ⟨rfl, rfl⟩ | ⟨g, cap, rfl, _⟩
  · exact ⟨none, 0, rfl⟩
  · exact ⟨_, _, rfl⟩
theorem EsIn.setBelow {base : Nat} {w : World} {v : Value} {es : List (Int × Int)} (h : EsIn base w v es) {b : Nat} (hb : b < base) (o : Nat) (u : Value) : EsIn base (w.setCell ⟨b, o, none⟩ u) v es := ownsRow_setCell_below h hb u

/-- The edges of the graph that FromEdges builds. -/
def frm (n : Int) (xs : List (Int × Int)) : List (Int × Int) := xs.foldl (fun es e => addE n es e.1 e.2) []
theorem frm_snoc (n : Int) (xs : List (Int × Int)) (e : Int × Int) : frm n (xs ++ [e]) = addE n (frm n xs) e.1 e.2 := by simp [frm]
theorem addE_sorted (n : Int) {es : List (Int × Int)} (hs : SortedE es) (u x : Int) : SortedE (addE n es u x) := by
  unfold addE; split
  · exact hs.ins _
  · exact hs
theorem addE_length (n : Int) (es : List (Int × Int)) (u x : Int) : (addE n es u x).length ≤ es.length + 1 := by
  unfold addE; split
  · exact insE_length _ _
  · omega
theorem frm_take_succ (n : Int) (xs : List (Int × Int)) (k : Nat) (h : k < xs.length) : frm n (xs.take (k + 1)) = addE n (frm n (xs.take k)) xs[k].1 xs[k].2 := by
  rw [List.take_succ_eq_append_getElem h, frm_snoc]
theorem frm_ok (n : Int) (xs : List (Int × Int)) (k : Nat) : SortedE (frm n (xs.take k)) ∧ (frm n (xs.take k)).length ≤ k := by
  induction k with
  | zero => simp [frm, SortedE]
  | succ k ih =>
    by_cases h : k < xs.length
    · rw [frm_take_succ n xs k h]
      have := addE_length n (frm n (xs.take k)) xs[k].1 xs[k].2
      exact ⟨addE_sorted n ih.1 _ _, by omega⟩
    · rw [List.take_of_length_le (by omega)]; rw [List.take_of_length_le (by omega)] at ih
      exact ⟨ih.1, by omega⟩
theorem addCode_in {n : Int} {es : List (Int × Int)} {u x : Int} (h : inR n u x = true) : (addCode n es u x == 2) = false := by
  unfold addCode; rw [if_pos h]; split <;> rfl

set_option maxHeartbeats 400000 in
theorem from_some (n : Int) (hn0 : 0 ≤ n) (hn : n ≤ 4096) (xs : List (Int × Int)) (hlen : xs.length ≤ 100000) (hin : ∀ e ∈ xs, inR n e.1 e.2 = true) (g cap : Nat) (w : World) (hgw : g < w.heap.size)
    (hc : ∀ i (hi : i < xs.length), w.cell? ⟨g, i * 2, none⟩ = some (.int .i64 xs[i].1) ∧ w.cell? ⟨g, i * 2 + 1, none⟩ = some (.int .i64 xs[i].2)) :
    Calls Ybdv.prog 9 #[.int .i64 n, .slice (some ⟨g, 0, none⟩) xs.length cap] w fun e w' =>
      ∃ v', e = .returned (.tuple #[.agg #[.int .i64 n, v'], .bool true]) ∧ EsIn w.heap.size w' v' (frm n xs) ∧ Below w.heap.size w w' := by
  go_enter Ybdv.func9, Ybdv.ntmps9
  go_wp2
  go_loopw [20] (fun i wr => ∃ k : Nat, ∃ v' : Value, k ≤ xs.length ∧ i = .int .i64 k ∧ wr.heap[w.heap.size]? = some (.cells #[.int .i64 0, .slice none 0 0] 31 (0, 0)) ∧ wr.heap[w.heap.size + 1]? = some (.cells #[.int .i64 n, v'] 31 (0, 0)) ∧
      EsIn (w.heap.size + 2) wr v' (frm n (xs.take k)) ∧ Below w.heap.size w wr)
    (fun i _ => xs.length - (intOf i).toNat)
  case atStart =>
    refine ⟨0, .slice none 0 0, Nat.zero_le _, rfl, ?_, ?_, EsIn.nil _ _, ((Below.refl _ _).alloc (Nat.le_refl _) _).alloc (by simp) _⟩
    · rw [Below.heap_alloc _ _ _ (by simp)]; exact heap_alloc_new w _
    · have := heap_alloc_new (w.alloc (.cells #[.int .i64 0, .slice none 0 0] 31)) (.cells #[.int .i64 n, .slice none 0 0] 31)
      simpa using this
  case round =>
    obtain ⟨k, v', hk, rfl, hr0, hr1, hE, hb⟩ := hrel
    obtain ⟨hsr, hsl⟩ := frm_ok n xs k
    have hz := lt_of_block hr1
    by_cases hlt : k < xs.length
    · obtain ⟨q0, q1⟩ := hc k hlt
      have k0 : wr.cell? ⟨g, k * 2, none⟩ = some (.int .i64 xs[k].1) := (hb.cell (p := ⟨g, k * 2, none⟩) hgw).trans q0
      have k1 : wr.cell? ⟨g, k * 2 + 1, none⟩ = some (.int .i64 xs[k].2) := (hb.cell (p := ⟨g, k * 2 + 1, none⟩) hgw).trans q1
      have hi := hin xs[k] (List.getElem_mem hlt)
      have HT := hide (frm_take_succ n xs k hlt)
      generalize xs[k] = pm at *
      have hcode := addCode_in (es := frm n (xs.take k)) hi
      clear q0 q1 hi
      go_wp2_with (
        go_at_call 15
        refine (add_any (base := w.heap.size + 2) hsr ?_ n (w.heap.size + 1) _ _ _ ?_ (hE.alloc _) ?_).mono ?_
        · omega
        · rw [Below.heap_alloc _ _ _ hz]; exact hr1
        · simp; omega
        rintro e w1 ⟨rfl, v1, hr1', hE', hG⟩)
      go_roundw
      case rel =>
        refine ⟨k + 1, v1, by omega, by go_num, ?_, hr1', by rw [HT.out]; exact hE', (hb.alloc (by omega) _).grown hG (by simp; omega) (by simp)⟩
        exact (hG.block _ (by simp; omega) (by simp)).trans ((Below.heap_alloc _ _ _ (by omega)).trans hr0)
      case measure => simp [intOf]; omega
    · have hkx : k = xs.length := by omega
      have hE1 : EsIn (w.heap.size + 2) wr v' (frm n xs) := by rw [hkx, List.take_of_length_le (Nat.le_refl _)] at hE; exact hE
      obtain ⟨ao, cp, rfl⟩ := hE1.shape
      have c0 := gr_cell0 hr1
      have c1 := gr_cell1 hr1
      have f0 : wr.frozen? ⟨w.heap.size, 0, none⟩ = false := gr_free hr0
      have f1 : wr.frozen? ⟨w.heap.size, 1, none⟩ = false := gr_free hr0
      have d0 := gr_cell0 hr0
      have d1 := gr_cell1 hr0
      clear hkx hE hc
      go_wp2
      refine bodyPost_ret (v := .tuple #[.agg #[.int .i64 n, .slice ao (frm n xs).length cp], .bool true]) ?_ rfl ⟨_, rfl, ?_, ?_⟩
      · have r0 := gr_set0 (u := .int .i64 n) hr0
        have r1 := gr_set1 (u := .slice ao (frm n xs).length cp) r0
        have q0 := gr_cell0 r0
        have q0' := gr_cell0 r1
        have q1' := gr_cell1 r1
        simp [results, Ybdv.results9, go_sem, q0, q0', q1']
      · refine EsIn.rebase ((hE1.setBelow (by omega) _ _).setBelow (by omega) _ _) ?_
        intro k hk
        have := (World.ownsRow.lt hE1 k hk).1
        omega
      · exact (hb.setCell (by simp) _).setCell (by simp) _

set_option maxHeartbeats 400000 in
theorem from_nil (n : Int) (hn0 : 0 ≤ n) (hn : n ≤ 4096) (w : World) :
    Calls Ybdv.prog 9 #[.int .i64 n, .slice none 0 0] w fun e w' =>
      ∃ v', e = .returned (.tuple #[.agg #[.int .i64 n, v'], .bool true]) ∧ EsIn w.heap.size w' v' [] ∧ Below w.heap.size w w' := by
  go_enter Ybdv.func9, Ybdv.ntmps9
  go_wp2
  refine wp_loop_rounds 1 ?_
  rw [rounds_succ]
  go_wp2
  refine bodyPost_ret (v := .tuple #[.agg #[.int .i64 n, .slice none 0 0], .bool true]) ?_ rfl ⟨_, rfl, EsIn.nil _ _, ?_⟩
  · simp [results, Ybdv.results9, go_sem]
  · exact ((Below.refl _ _).alloc (Nat.le_refl _) _).alloc (by simp) _

/-- 'FromEdges' where all edges are in range. -/
theorem from_any (n : Int) (hn0 : 0 ≤ n) (hn : n ≤ 4096) {base : Nat} {v : Value} (xs : List (Int × Int)) (hlen : xs.length ≤ 100000) (hin : ∀ e ∈ xs, inR n e.1 e.2 = true) (w : World) (h : EsIn base w v xs) :
    Calls Ybdv.prog 9 #[.int .i64 n, v] w fun e w' =>
      ∃ v', e = .returned (.tuple #[.agg #[.int .i64 n, v'], .bool true]) ∧ EsIn w.heap.size w' v' (frm n xs) ∧ Below w.heap.size w w' := by
  rcases h.view with ⟨rfl, rfl⟩ | ⟨g, cap, rfl, _, hg, _, _, hc⟩
  · exact from_nil n hn0 hn w
  · exact from_some n hn0 hn xs hlen hin g cap w hg hc

def swapE (xs : List (Int × Int)) : List (Int × Int) := xs.map fun e => (e.2, e.1)

set_option maxHeartbeats 400000 in
theorem trp_some (n : Int) (es : List (Int × Int)) (hlen : es.length ≤ 100000) (gb g cap : Nat) (w : World) (hgw : g < w.heap.size)
    (hg : w.heap[gb]? = some (.cells #[.int .i64 n, .slice (some ⟨g, 0, none⟩) es.length cap] 31 (0, 0)))
    (hc : ∀ i (hi : i < es.length), w.cell? ⟨g, i * 2, none⟩ = some (.int .i64 es[i].1) ∧ w.cell? ⟨g, i * 2 + 1, none⟩ = some (.int .i64 es[i].2)) :
    Calls Ybdv.prog 10 #[.pointer (some ⟨gb, 0, none⟩)] w fun e w' =>
      ∃ v', e = .returned (.agg #[.int .i64 n, v']) ∧ EsIn w.heap.size w' v' (frm n (swapE es)) ∧ Below w.heap.size w w' := by
  have c0 := gr_cell0 hg
  have c1 := gr_cell1 hg
  have hzg := lt_of_block hg
  have hsl : (swapE es).length = es.length := by simp [swapE]
  clear hg
  go_enter Ybdv.func10, Ybdv.ntmps10
  go_wp2
  go_loopw [16] (fun i wr => ∃ k : Nat, ∃ v' : Value, k ≤ es.length ∧ i = .int .i64 k ∧ wr.heap[w.heap.size]? = some (.cells #[.int .i64 0, .slice none 0 0] 31 (0, 0)) ∧ wr.heap[w.heap.size + 1]? = some (.cells #[.int .i64 n, v'] 31 (0, 0)) ∧
      EsIn (w.heap.size + 2) wr v' (frm n ((swapE es).take k)) ∧ Below w.heap.size w wr)
    (fun i _ => es.length - (intOf i).toNat)
  case atStart =>
    refine ⟨0, .slice none 0 0, Nat.zero_le _, rfl, ?_, ?_, EsIn.nil _ _, ((Below.refl _ _).alloc (Nat.le_refl _) _).alloc (by simp) _⟩
    · rw [Below.heap_alloc _ _ _ (by simp)]; exact heap_alloc_new w _
    · have := heap_alloc_new (w.alloc (.cells #[.int .i64 0, .slice none 0 0] 31)) (.cells #[.int .i64 n, .slice none 0 0] 31)
      simpa using this
  case round =>
    obtain ⟨k, v', hk, rfl, hr0, hr1, hE, hb⟩ := hrel
    obtain ⟨hsr, hsk⟩ := frm_ok n (swapE es) k
    have hz := lt_of_block hr1
    by_cases hlt : k < es.length
    · obtain ⟨q0, q1⟩ := hc k hlt
      have k0 : wr.cell? ⟨g, k * 2, none⟩ = some (.int .i64 es[k].1) := (hb.cell (p := ⟨g, k * 2, none⟩) hgw).trans q0
      have k1 : wr.cell? ⟨g, k * 2 + 1, none⟩ = some (.int .i64 es[k].2) := (hb.cell (p := ⟨g, k * 2 + 1, none⟩) hgw).trans q1
      have HT : Hid (frm n ((swapE es).take (k + 1)) = addE n (frm n ((swapE es).take k)) es[k].2 es[k].1) := by
        show _ = _
        have := frm_take_succ n (swapE es) k (by omega)
        rw [this]; simp [swapE]
      generalize es[k] = pm at *
      clear q0 q1 c0 c1
      go_wp2_with (
        go_at_call 15
        refine (add_any (base := w.heap.size + 2) hsr ?_ n (w.heap.size + 1) _ _ _ ?_ (hE.alloc _) ?_).mono ?_
        · omega
        · rw [Below.heap_alloc _ _ _ hz]; exact hr1
        · simp; omega
        rintro e w1 ⟨rfl, v1, hr1', hE', hG⟩)
      go_roundw
      case rel =>
        refine ⟨k + 1, v1, by omega, by go_num, ?_, hr1', by rw [HT.out]; exact hE', (hb.alloc (by omega) _).grown hG (by simp; omega) (by simp)⟩
        exact (hG.block _ (by simp; omega) (by simp)).trans ((Below.heap_alloc _ _ _ (by omega)).trans hr0)
      case measure => simp [intOf]; omega
    · have hkx : k = es.length := by omega
      have hE1 : EsIn (w.heap.size + 2) wr v' (frm n (swapE es)) := by rw [hkx, List.take_of_length_le (by omega)] at hE; exact hE
      obtain ⟨ao, cp, rfl⟩ := hE1.shape
      have e0 := gr_cell0 hr1
      have e1 := gr_cell1 hr1
      have f0 : wr.frozen? ⟨w.heap.size, 0, none⟩ = false := gr_free hr0
      have f1 : wr.frozen? ⟨w.heap.size, 1, none⟩ = false := gr_free hr0
      have d0 := gr_cell0 hr0
      have d1 := gr_cell1 hr0
      clear hkx hE hc c0 c1 hsl
      go_wp2
      refine bodyPost_ret (v := .agg #[.int .i64 n, .slice ao (frm n (swapE es)).length cp]) ?_ rfl ⟨_, rfl, ?_, ?_⟩
      · have r0 := gr_set0 (u := .int .i64 n) hr0
        have r1 := gr_set1 (u := .slice ao (frm n (swapE es)).length cp) r0
        have q0 := gr_cell0 r0
        have q0' := gr_cell0 r1
        have q1' := gr_cell1 r1
        simp [results, Ybdv.results10, go_sem, q0, q0', q1']
      · refine EsIn.rebase ((hE1.setBelow (by omega) _ _).setBelow (by omega) _ _) ?_
        intro k hk
        have := (World.ownsRow.lt hE1 k hk).1
        omega
      · exact (hb.setCell (by simp) _).setCell (by simp) _

set_option maxHeartbeats 400000 in
theorem trp_nil (n : Int) (gb : Nat) (w : World) (hg : w.heap[gb]? = some (.cells #[.int .i64 n, .slice none 0 0] 31 (0, 0))) :
    Calls Ybdv.prog 10 #[.pointer (some ⟨gb, 0, none⟩)] w fun e w' =>
      ∃ v', e = .returned (.agg #[.int .i64 n, v']) ∧ EsIn w.heap.size w' v' [] ∧ Below w.heap.size w w' := by
  have c0 := gr_cell0 hg
  have c1 := gr_cell1 hg
  have hzg := lt_of_block hg
  clear hg
  go_enter Ybdv.func10, Ybdv.ntmps10
  go_wp2
  refine wp_loop_rounds 1 ?_
  rw [rounds_succ]
  go_wp2
  refine bodyPost_ret (v := .agg #[.int .i64 n, .slice none 0 0]) ?_ rfl ⟨_, rfl, EsIn.nil _ _, ?_⟩
  · simp [results, Ybdv.results10, go_sem]
  · exact ((Below.refl _ _).alloc (Nat.le_refl _) _).alloc (by simp) _

theorem trp_any (n : Int) {base : Nat} {v : Value} (es : List (Int × Int)) (hlen : es.length ≤ 100000) (gb : Nat) (w : World)
    (hg : w.heap[gb]? = some (.cells #[.int .i64 n, v] 31 (0, 0))) (h : EsIn base w v es) :
    Calls Ybdv.prog 10 #[.pointer (some ⟨gb, 0, none⟩)] w fun e w' =>
      ∃ v', e = .returned (.agg #[.int .i64 n, v']) ∧ EsIn w.heap.size w' v' (frm n (swapE es)) ∧ Below w.heap.size w w' := by
  rcases h.view with ⟨rfl, rfl⟩ | ⟨g, cap, rfl, _, hgl, _, _, hc⟩
  · exact trp_nil n gb w hg
  · exact trp_some n es hlen gb g cap w hgl hg hc

end Go.Proofs.Ymwhbd
