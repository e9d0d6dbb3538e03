import Derived.Test.YmwhbdCopy
import Derived.Deep.AppendLies
namespace Go.Proofs.Ymwhbd
open Go.RowKit
set_option linter.unusedSimpArgs false
set_option linter.unusedVariables false

/-- 'es = append(es, Edge{p, q})' as a step of a region that draws its order. -/
theorem step_append_es {w : World} {ops : Array Oper} {o : Oper} {a : Act} {K : Act → World → Prop} {Q : Exit → Act → World → Prop} {E : Prop} (hgd : o.guard = none) (s x : Operand)
    (ho : o.op = .call { callee := .builtin .append, args := #[s, x], argTypes := #[23, 23] })
    (base : Nat) (v : Value) (es : List (Int × Int)) (hs : a.eval s = v) (hE : EsIn base w v es) (B : Nat) (p q : Int) (hx : a.eval x = .slice (some ⟨B, 0, none⟩) 1 1)
    (hB : w.heap[B]? = some (.cells #[.int .i64 p, .int .i64 q] 28 (0, 0))) (hlen : es.length ≤ 1000000) (hbase : base ≤ w.heap.size)
    (h : ∀ g cap w', EsIn base w' (.slice (some ⟨g, 0, none⟩) (es.length + 1) cap) (es ++ [(p, q)]) → w.grownBy w' v.ownBlock → K (a.put o.dst (.slice (some ⟨g, 0, none⟩) (es.length + 1) cap)) w') :
    if Region.wanted o (yielded ops a.tmps) = true then Oper.wp Ybdv.prog o a w K Q else E := by
  obtain ⟨i0, hi, hz0, hz1, hz2⟩ := info_parts Ybdv.info28
  refine step_append_lies w hgd s x 23 ho base 28 i0 _ 2 16 Ybdv.underlying23 hi hz0 hz1 hz2 rfl (by omega) v es.length (flatE es) hs hE ⟨B, 0, none⟩ 1 1 [.int .i64 p, .int .i64 q] hx rfl
    (World.news_of_block (cs := #[.int .i64 p, .int .i64 q]) hB) (flatE_one [(p, q)]) (by omega) (by unfold maxLen; omega) (by omega) hbase w.heap.size rfl ?_
  intro g cap w' ho' hg' _ _
  refine h g cap w' ?_ hg'
  unfold EsIn
  rw [flatE_append, List.length_append]
  exact ho'

end Go.Proofs.Ymwhbd
