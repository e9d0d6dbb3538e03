import Derived.Test.YmwhbdRows
import Derived.WalkKit
import Derived.WalkSpells
import Derived.WalkLawsBesides
import Derived.Deep.QuietTactic
import Derived.BigQuiet
import Derived.Deep.RegionHeld3
import Derived.Deep.DrawnRows
import Derived.Laws.StructEq
namespace Go.Proofs.Ymwhbd
open Go.RowKit
set_option linter.unusedSimpArgs false
set_option linter.unusedVariables false

theorem ret_int {k : IntKind} {a b : Int} (h : a = b) : Ending.returned (.int k a) = .returned (.int k b) := by rw [h]

/-- A fact kept from the walk. -/
theorem hide {p : Prop} (h : p) : Hid p := h

theorem eql28 (a b c d : Int) (w : World) : (binOp .eql 28 (.agg #[.int .i64 a, .int .i64 b]) (.agg #[.int .i64 c, .int .i64 d])).run Ybdv.prog w = .ok (.bool (a == c && b == d)) w := by
  have u3 := Ybdv.underlying3
  have a3 := Ybdv.isAgg3
  have z3 := Ybdv.sizeOf3
  have hS : Ybdv.prog.underlying 28 = some (.struct (Ybdv.prog.fieldsOf 28)) := by kernel_rfl
  have hp : Ybdv.prog.stoodInHeld 28 = false := by kernel_rfl
  rw [run_eql_struct, show (10000 : Nat) = 9999 + 1 from rfl, run_equalIn_agg w 9999 28 _ _ hS hp]
  simp only [Program.fieldsOf, Ybdv.underlying28]
  go_simp
  by_cases h1 : a = c <;> by_cases h2 : b = d <;> simp [h1, h2]
theorem neq28 (a b c d : Int) (w : World) : (binOp .neq 28 (.agg #[.int .i64 a, .int .i64 b]) (.agg #[.int .i64 c, .int .i64 d])).run Ybdv.prog w = .ok (.bool (!(a == c && b == d))) w := by
  have u3 := Ybdv.underlying3
  have a3 := Ybdv.isAgg3
  have z3 := Ybdv.sizeOf3
  have hS : Ybdv.prog.underlying 28 = some (.struct (Ybdv.prog.fieldsOf 28)) := by kernel_rfl
  have hp : Ybdv.prog.stoodInHeld 28 = false := by kernel_rfl
  rw [run_neq_struct, show (10000 : Nat) = 9999 + 1 from rfl, run_equalIn_agg w 9999 28 _ _ hS hp]
  simp only [Program.fieldsOf, Ybdv.underlying28]
  go_simp
  by_cases h1 : a = c <;> by_cases h2 : b = d <;> simp [h1, h2]
theorem guard28 (op : BinOp) (x y : Operand) (xs ys : Array Value) (w : World) : (eqGuard op 28 x y (.agg xs) (.agg ys)).run Ybdv.prog w = .ok () w := run_eqGuard_agg w op 28 x y xs ys (by kernel_rfl)

/-- The three-way comparison of edges, as CompareEdges answers it. -/
def cmpE (a b c d : Int) : Int := if a < c then -1 else if c < a then 1 else if b < d then -1 else if d < b then 1 else 0

set_option maxHeartbeats 400000 in
theorem cmp_any (a b c d : Int) (w : World) :
    Calls Ybdv.prog 26 #[.agg #[.int .i64 a, .int .i64 b], .agg #[.int .i64 c, .int .i64 d]] w fun e w' =>
      e = .returned (.int .i64 (cmpE a b c d)) ∧ Below w.heap.size w w' := by
  by_cases h1 : a < c
  · have HC : Hid (cmpE a b c d = -1) := show _ = _ by simp [cmpE, h1]
    go_enter Ybdv.func26, Ybdv.ntmps26
    go_wp2
    go_ret
    exact ⟨ret_int HC.out.symm, ((Below.refl _ _).alloc (Nat.le_refl _) _).alloc (by simp) _⟩
  by_cases h2 : c < a
  · have HC : Hid (cmpE a b c d = 1) := show _ = _ by simp [cmpE, h1, h2]
    go_enter Ybdv.func26, Ybdv.ntmps26
    go_wp2
    go_ret
    exact ⟨ret_int HC.out.symm, ((Below.refl _ _).alloc (Nat.le_refl _) _).alloc (by simp) _⟩
  by_cases h3 : b < d
  · have HC : Hid (cmpE a b c d = -1) := show _ = _ by simp [cmpE, h1, h2, h3]
    go_enter Ybdv.func26, Ybdv.ntmps26
    go_wp2
    go_ret
    exact ⟨ret_int HC.out.symm, ((Below.refl _ _).alloc (Nat.le_refl _) _).alloc (by simp) _⟩
  by_cases h4 : d < b
  · have HC : Hid (cmpE a b c d = 1) := show _ = _ by simp [cmpE, h1, h2, h3, h4]
    go_enter Ybdv.func26, Ybdv.ntmps26
    go_wp2
    go_ret
    exact ⟨ret_int HC.out.symm, ((Below.refl _ _).alloc (Nat.le_refl _) _).alloc (by simp) _⟩
  have HC : Hid (cmpE a b c d = 0) := show _ = _ by simp [cmpE, h1, h2, h3, h4]
  go_enter Ybdv.func26, Ybdv.ntmps26
  go_wp2
  go_ret
  exact ⟨ret_int HC.out.symm, ((Below.refl _ _).alloc (Nat.le_refl _) _).alloc (by simp) _⟩

end Go.Proofs.Ymwhbd
