import Derived.Test.YmwhbdArr
namespace Go.Proofs.Ymwhbd
open Go.RowKit
/-- The cells of the zero matrix of 9 x 9 bools. -/
def z55 : Array Value := (tab 81 fun _ => Value.bool false).toArray
theorem Ybdv.info55 : (Ybdv.prog.info? 55).map (fun i => (i.zero, i.size)) = some (some (.agg z55), 81) := by kernel_rfl
theorem zero55_run (w : World) : (zeroValue 55).run Ybdv.prog w = .ok (.agg z55) w := by
  obtain ⟨i, hi, hz⟩ := Option.map_eq_some_iff.1 Ybdv.info55
  simp only [Prod.mk.injEq] at hz
  simp [zeroValue, typeInfo, hi, hz.1]
theorem arr_z55 (w : World) : ArrIn (w.alloc (.cells z55 55)) w.heap.size 55 81 (fun _ => .bool false) := heap_alloc_new w _
end Go.Proofs.Ymwhbd
