import Derived.Test.YmwhbdQAC
namespace Go.Proofs.Ymwhbd
open Go.RowKit
set_option linter.unusedSimpArgs false
set_option linter.unusedVariables false

theorem Ybdv_mod (x : Int) (n : Nat) (h0 : 0 < n) (h1 : n ≤ 255) (hx : -9223372036854775808 ≤ x ∧ x ≤ 9223372036854775807) (W : World) :
    Calls Ybdv.prog 21 #[.int .i64 x, .int .i64 (n : Int)] W fun e w' => e = .returned (.int .i64 (x % (n : Int))) ∧ w' = W := by
  have hn0 : ¬ (n : Int) = 0 := by omega
  have hn0' : ¬ n = 0 := by omega
  have t1 := Int.tmod_eq_emod (a := x) (b := (n : Int))
  have t2 := Int.emod_nonneg x hn0
  have t3 := Int.emod_lt_of_pos x (show (0 : Int) < (n : Int) by omega)
  have HM : Hid (x % (n : Int) = if x.tmod (n : Int) < 0 then x.tmod (n : Int) + (n : Int) else x.tmod (n : Int)) := by
    show _ = _
    simp at t1
    split <;> split at t1 <;> omega
  have hb : -(255 : Int) ≤ x.tmod (n : Int) ∧ x.tmod (n : Int) ≤ 255 := by
    simp at t1
    split at t1 <;> omega
  clear t1 t2 t3
  generalize hr : x.tmod (n : Int) = r at *
  generalize x % (n : Int) = m at *
  by_cases hlt : r < 0
  · go_enter Ybdv.func21, Ybdv.ntmps21
    go_wp2
    go_ret
    rw [HM.out, if_pos hlt]; exact ⟨rfl, rfl⟩
  · go_enter Ybdv.func21, Ybdv.ntmps21
    go_wp2
    go_ret
    rw [HM.out, if_neg (by omega)]; exact ⟨rfl, rfl⟩

end Go.Proofs.Ymwhbd
