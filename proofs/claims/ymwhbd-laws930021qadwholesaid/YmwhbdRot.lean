import Derived.Test.YmwhbdPeel
import Derived.Test.YmwhbdBack
namespace Go.Proofs.Ymwhbd
open Go.RowKit
set_option linter.unusedSimpArgs false
set_option linter.unusedVariables false

theorem ints_cell {w : World} {base g n cap : Nat} {c : List Int} (h : w.ownsRow base 3 1 (.slice (some ⟨g, 0, none⟩) n cap) n (c.map (Value.int .i64))) (i : Nat) (hi : i < c.length) : w.cell? ⟨g, i, none⟩ = some (.int .i64 c[i]) := by
  have hl := h.1
  simp at hl
  rw [World.ownsRow.cellAt h i (by omega)]; simp [hi]
theorem ret_slice {a a' : Nat} {ad : Option Addr} {c : Nat} (h : a = a') : Ending.returned (.slice ad a c) = .returned (.slice ad a' c) := by rw [h]

set_option maxHeartbeats 1000000 in
/-- 'RotateMin'. -/
theorem rot_any (c : List Int) (hcl : c.length ≤ 100000) (h0 : 0 < c.length) {base : Nat} (C cap : Nat) (hcap : c.length ≤ cap) (W : World) (hc : W.ownsRow base 3 1 (.slice (some ⟨C, 0, none⟩) c.length cap) c.length (c.map (Value.int .i64))) :
    Calls Ybdv.prog 25 #[.slice (some ⟨C, 0, none⟩) c.length cap] W fun e w' => ∃ R : Nat, e = .returned (.slice (some ⟨R, 0, none⟩) c.length c.length) ∧
      w'.ownsRow W.heap.size 3 1 (.slice (some ⟨R, 0, none⟩) c.length c.length) c.length ((rotM c).map (Value.int .i64)) ∧ Below W.heap.size W w' := by
  obtain ⟨i3, hi3, h30, h31, h32⟩ := info_parts Ybdv.info3
  have zC : C < W.heap.size := (World.ownsRow.lt hc _ rfl).2
  have hcell := fun i (hi : i < c.length) => ints_cell hc i hi
  have HC := hide hc
  clear hc
  go_enter Ybdv.func25, Ybdv.ntmps25
  go_wp2
  go_loop [3, 9] (fun a i => ∃ k : Nat, k ≤ c.length ∧ i = .int .i64 k ∧ a = .int .i64 (minI c k)) (fun _ i => c.length - (intOf i).toNat)
  case atStart => exact ⟨0, Nat.zero_le _, rfl, rfl⟩
  case round =>
    obtain ⟨k, hk, rfl, rfl⟩ := hrel
    have hml := minI_lt h0 k hk
    by_cases hlt : k < c.length
    · have k0 := hcell k hlt
      have k1 := hcell (minI c k) hml
      have HS : Hid (minI c (k + 1) = if c[k] < c[minI c k] then k else minI c k) := by
        show _ = _
        simp only [minI]; rw [getD_eq hlt, getD_eq hml]
      have ik1 : (k : Int) < (c.length : Int) := by omega
      have im1 : ((minI c k : Nat) : Int) < (c.length : Int) := by omega
      generalize c[k] = x at *
      generalize c[minI c k] = y at *
      clear hcell
      by_cases hxy : x < y
      · go_wp2
        go_round
        case rel => exact ⟨k + 1, by omega, by go_num, by rw [HS.out, if_pos hxy]⟩
        case measure => simp [intOf]; omega
      · go_wp2
        go_round
        case rel => exact ⟨k + 1, by omega, by go_num, by rw [HS.out, if_neg hxy]⟩
        case measure => simp [intOf]; omega
    · have hkl : k = c.length := by omega
      subst hkl
      have HR : Hid (rotM c = c.drop (minI c c.length) ++ c.take (minI c c.length)) := rfl
      generalize minI c c.length = m at *
      go_wp2_with (
        at_make
        refine wpList_make_own _ rfl (.const (.int .i64 0)) (.tmp 23) 39 rfl W.heap.size 3 i3 _ 1 Ybdv.underlying39 hi3 h30 h31 .i64 .i64 _ c.length rfl rfl rfl ?_ ?_ ?_ ?_
        · rw [h32]; omega
        · unfold maxLen; omega
        · omega)
      intro w1 ho1 hG1
      have lR : W.heap.size < w1.heap.size := (World.ownsRow.lt ho1 _ rfl).2
      have hb1 := below_grow hG1
      have hcell1 : ∀ t, t < c.length → w1.cell? ⟨C, 0 + t, none⟩ = some (.int .i64 (c.getD t 0)) := fun t ht => by
        rw [Nat.zero_add, getD_eq ht]; exact (hb1.cell (p := ⟨C, t, none⟩) zC).trans (hcell t ht)
      have HC1 := hide hcell1
      clear hcell hcell1
      go_wp2_with (
        first
        | (at_builtin
           refine wpList_append_fits_any _ rfl (.tmp 25) (.tmp 28) 39 rfl W.heap.size 3 i3 1 Ybdv.underlying39 hi3 h31 W.heap.size 0 c.length [] rfl ho1 _ _ _ ((c.drop m).map (Value.int .i64)) rfl ?_ ?_ ?_ ?_ ?_ ?_
           · simp
           · intro h'; first | (simp at h'; done) | (split at h' <;> simp at h')
           · exact cells_from rfl hcap HC1.out (by intro h'; first | rfl | simp [h'])
           · exact ints_oneCell _ _
           · omega
           intro w2 ho2 hG2
           rw [Nat.zero_add, List.nil_append] at ho2
           have hB2 : Below W.heap.size W w2 := hb1.grown hG2 (by omega) (by simp))
        | (at_builtin
           refine wpList_append_fits_any _ rfl (.tmp 30) (.tmp 33) 39 rfl W.heap.size 3 i3 1 Ybdv.underlying39 hi3 h31 W.heap.size (c.length - m) c.length _ rfl ho2 _ _ _ ((c.take m).map (Value.int .i64)) rfl ?_ ?_ ?_ ?_ ?_ ?_
           · rw [List.length_map, List.length_take]; omega
           · simp
           · intro ad had t y ht
             obtain rfl := Option.some.inj had
             rw [Addr.add_lit]
             have htl := (List.getElem?_eq_some_iff.1 ht).1
             rw [List.length_map, List.length_take] at htl
             have htm : t < m := by omega
             have htc : t < c.length := by omega
             have hcl' := (hB2.cell (p := ⟨C, t, none⟩) zC).trans (ints_cell HC.out t (by omega))
             rw [Nat.zero_add, hcl']
             rw [← ht]; simp [htm, htc]
           · exact ints_oneCell _ _
           · omega
           intro w3 ho3 hG3
           have hB3 : Below W.heap.size W w3 := hB2.grown hG3 (by have := hB2.size; omega) (by simp)))
      all_goals
        go_ret
        refine ⟨W.heap.size, ret_slice (by omega), ?_, hB3⟩
        rw [HR.out, List.map_append]
        rw [show c.length - m + m = c.length by omega] at ho3
        exact ho3

end Go.Proofs.Ymwhbd
