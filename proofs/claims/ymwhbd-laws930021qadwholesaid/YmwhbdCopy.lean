import Derived.Test.YmwhbdC
import Derived.Laws.CopyRow
namespace Go.Proofs.Ymwhbd
open Go.RowKit
set_option linter.unusedSimpArgs false
set_option linter.unusedVariables false

/-- 'copy(dst, src)' where both are rows of n elements, of whatever size: dst then owns src's cells. -/
theorem run_copy_whole {P : Program} (w : World) (base base' : Nat) (t ty e : TypeId) (i : TypeInfo) (size : Nat) (ht : P.underlying t = some (.slice e)) (hi : P.info? e = some i) (hsize : i.size = size)
    (g n cap : Nat) (zs : List Value) (hd : w.ownsRow base e size (.slice (some ⟨g, 0, none⟩) n cap) n zs)
    (v : Value) (xs : List Value) (hv : w.ownsRow base' e size v n xs) (h1 : ∀ u ∈ xs, u.oneCell' = true) :
    ∃ w', (Builtin.copy_ #[t, t] ty #[.slice (some ⟨g, 0, none⟩) n cap, v]).run P w = .ok (goInt n) w' ∧ w'.ownsRow base e size (.slice (some ⟨g, 0, none⟩) n cap) n xs ∧ w.grownBy w' (some g) := by
  subst hsize
  have hxl := hv.1
  rcases hd.2 with ⟨h, _⟩ | ⟨g', cap', cur, h, hbg, hg, hnc, hcm, hcs, htake⟩
  · simp at h
  · simp only [Value.slice.injEq, Option.some.injEq, Addr.mk.injEq, and_true, true_and] at h
    obtain ⟨rfl, rfl⟩ := h
    have hfit : 0 + 0 + xs.length ≤ cur.size := by rw [hxl, hcs]; simpa using Nat.mul_le_mul_right i.size hnc
    have hst := run_storeCells_at P g 0 e xs 0 cur w hg (by simpa using hfit) h1
    simp only [Nat.zero_add, List.take_zero, List.nil_append] at hst
    have own : ∀ w' : World, w'.heap[g]? = some (.cells (xs ++ cur.toList.drop xs.length).toArray e (0, 0)) → w'.ownsRow base e i.size (.slice (some ⟨g, 0, none⟩) n cap) n xs := by
      intro w' hw'
      refine ⟨hxl, .inr ⟨g, cap, _, rfl, hbg, hw', hnc, hcm, ?_, ?_⟩⟩
      · simp only [List.size_toArray, List.length_append, List.length_drop, Array.length_toList]; omega
      · rw [← hxl]; exact List.take_left
    rcases hv.2 with ⟨rfl, rfl⟩ | ⟨b, cb, cub, rfl, _, hb, _, _, _, htb⟩
    · have hx0 : xs = [] := List.eq_nil_of_length_eq_zero (by simpa using hxl)
      subst hx0
      refine ⟨w, ?_, own w (by simpa using hg), World.grownBy.refl _ _⟩
      simp [Builtin.copy_, run_underlying ht, Builtin.lenOf, Builtin.firstCells, sizeOf, typeInfo, hi, storeCells, goInt]
    · have hf := run_firstCells_some (P := P) w i.size n ⟨b, 0, none⟩ n cb xs hxl (World.ownsRow.cells hv rfl)
      refine ⟨_, ?_, own _ (setRow_heap w g cur _ e _ hg), ⟨rfl, rfl, rfl, by simp, fun k _ hk => setRow_other w g k _ (fun e => hk (by simp [e]))⟩⟩
      simp [Builtin.copy_, run_underlying ht, Builtin.lenOf, sizeOf, typeInfo, hi, hf, hst, goInt]

theorem wpList_copy_whole {P : Program} (w : World) {ops : Array Oper} {rest : List Oper} {o : Oper} {a : Act} {Q : Exit → Act → World → Prop}
    (hgd : o.guard = none) (d s : Operand) (t : TypeId) (hop : o.op = Op.call { callee := Callee.builtin Builtin.copy, args := #[d, s], argTypes := #[t, t] })
    (base base' : Nat) (e : TypeId) (i : TypeInfo) (size : Nat) (ht : P.underlying t = some (.slice e)) (hi : P.info? e = some i) (hsize : i.size = size)
    (g n cap : Nat) (zs : List Value) (hs : a.eval d = .slice (some ⟨g, 0, none⟩) n cap) (hd : w.ownsRow base e size (.slice (some ⟨g, 0, none⟩) n cap) n zs)
    (v : Value) (xs : List Value) (hx : a.eval s = v) (hv : w.ownsRow base' e size v n xs) (h1 : ∀ u ∈ xs, u.oneCell' = true)
    (hK : ∀ w', w'.ownsRow base e size (.slice (some ⟨g, 0, none⟩) n cap) n xs → w.grownBy w' (some g) → wpList P ops Q rest (a.put o.dst (goInt n)) w') :
    wpList P ops Q (o :: rest) a w := by
  refine wpList_plain hgd fun K hK' => ?_
  obtain ⟨w', hrun, r1, r2⟩ := run_copy_whole (P := P) w base base' t o.type e i size ht hi hsize g n cap zs hd v xs hv h1
  unfold Oper.wp
  simp [execOp, hop, resolve, invoke, builtin, hs, hx, hrun, Result.andThen]
  exact hK' _ _ (hK w' r1 r2)

end Go.Proofs.Ymwhbd
