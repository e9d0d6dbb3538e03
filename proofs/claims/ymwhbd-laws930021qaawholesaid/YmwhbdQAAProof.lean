import Derived.Test.YmwhbdQAA
namespace Go.Proofs.Ymwhbd.qaa
open Go.ChangeShapes Go.WideShapes Go.ChangeAt Go.RowKit
set_option linter.unusedVariables false

theorem walk (nr : Int) (wn : (Lit.int .u8 nr).wf = true) (ao : Option Addr) (len cap : Nat) (ps : List (Int × Int × Int)) (hl : ps.length = len) (hps : ∀ p ∈ ps, (Lit.int .u8 p.1).wf = true ∧ (Lit.int .u8 p.2.1).wf = true ∧ (Lit.int .u8 p.2.2).wf = true) (ux vx : Int) (W : World) (hraw : RawIn3 W .u8 ao ps) :
    Calls Ybdv.prog 5 #[.int .u8 nr, .slice ao len cap, .int .i64 ux, .int .i64 vx] W fun e w' => e = .returned (.bool true) ∧ Below W.heap.size W w' := by
  subst hl
  have hb := bounds_u8 wn
  by_cases h : ps.length ≤ 1024
  · exact qaa_walk nr hb.1 hb.2 ao cap ps (fun p hp => ⟨bounds_u8 (hps p hp).1, bounds_u8 (hps p hp).2.1, bounds_u8 (hps p hp).2.2⟩) h ux vx W hraw
  · refine (qaa_long nr ao ps.length cap (by omega) ux vx W).mono ?_
    rintro e w' ⟨rfl, rfl⟩
    exact ⟨rfl, Below.refl _ _⟩

set_option maxRecDepth 100000 in
theorem lifted (os : Os) (started : os.Started) (H : Type) (enc : TypeId × Value → H) :
    ReturnsInHanded {} Ybdv.checked os 5 .any (Rows.lawS930021QAAWholeSpec.pre6 enc Ybdv.prog Ybdv.f5 Rows.lawS930021QAAWholeRow.domain false) (Rows.lawS930021QAAWholeSpec.post enc Ybdv.prog Ybdv.f5 false true false false) := by
  refine returnsInHanded_of_change (C := Ybdv.checked) Ybdv.own started (by kernel_rfl) Ybdv.func5
    (ChangeSpec.witness6 (enc := enc) (C := Ybdv.checked) false ⟨#[], #[.int .u8 0, .slice none 0 0, .int .i64 0, .int .i64 0], []⟩ 8 (by kernel_rfl) (by kernel_rfl) (by kernel_rfl) (by kernel_rfl)) ?_
  intro W base args ds gs before hval0 hW hcnd _
  have hval : ∀ (j : Nat) t v, Ybdv.f5.params[j]? = some t → args[j]? = some v → Value.okWide Ybdv.prog W .any base t v := hval0
  have hW' := hW
  obtain ⟨p, q, hA0, hV, rfl, hfz, hnd⟩ := hW
  have hA : DataW.TrodAll enc Ybdv.prog W 0 (fun _ => true) true Ybdv.f5.params.toList args.toList ds p := hA0
  rw [Ybdv.params5] at hA hval
  obtain ⟨v0, vs0, d0, ds0, p0, q0, hargs, rfl, rfl, h0, r0⟩ := trodAll_cons hA
  obtain ⟨v1, vs1, d1, ds1, p1, q1, rfl, rfl, rfl, h1, r1⟩ := trodAll_cons r0
  obtain ⟨v2, vs2, d2, ds2, p2, q2, rfl, rfl, rfl, h2, r2⟩ := trodAll_cons r1
  obtain ⟨v3, vs3, d3, ds3, p3, q3, rfl, rfl, rfl, h3, r3⟩ := trodAll_cons r2
  obtain ⟨rfl, rfl, rfl⟩ := trodAll_nil r3
  obtain rfl : args = #[v0, v1, v2, v3] := by cases args; simp_all
  obtain ⟨rfl, rfl⟩ := trodVars_none hV
  obtain ⟨a0, rfl, rfl, rfl, w0⟩ := open_int Ybdv.underlying5 (hval 0 5 v0 rfl rfl) h0
  obtain ⟨a1, len1, cap1, rfl⟩ := okWide_slice Ybdv.underlying44 (hval 1 44 v1 rfl rfl)
  obtain ⟨a2, rfl, rfl, rfl, w2⟩ := open_int Ybdv.underlying3 (hval 2 3 v2 rfl rfl) h2
  obtain ⟨a3, rfl, rfl, rfl, w3⟩ := open_int Ybdv.underlying3 (hval 3 3 v3 rfl rfl) h3
  have k1 := h1
  have lt1 : ∀ x ∈ p1, x.block < W.heap.size := by obtain ⟨m, hm⟩ := k1; exact DataW.trod_lt m _ _ _ hm
  obtain ⟨ps, hl, hwf, hraw⟩ : ∃ ps : List (Int × Int × Int), ps.length = len1 ∧ (∀ p ∈ ps, (Lit.int .u8 p.1).wf = true ∧ (Lit.int .u8 p.2.1).wf = true ∧ (Lit.int .u8 p.2.2).wf = true) ∧ RawIn3 W .u8 a1 ps := by
    obtain ⟨fuel, hf⟩ := h1
    exact open_raw3 Ybdv.underlying44 Ybdv.underlying46 (by kernel_rfl) rfl rfl rfl (by kernel_rfl) (by kernel_rfl) (by kernel_rfl) Ybdv.underlying5 Ybdv.underlying5 Ybdv.underlying5 hf
  clear hA0 hval0
  refine (walk a0 w0 a1 len1 cap1 ps hl hwf a2 a3 W hraw).mono fun e W' ⟨he, bel⟩ => ?_
  subst he
  exact ⟨_, rfl, _, _, _, [], _, [], hW', trodAll_mk1 (shut_bool Ybdv.underlying4 _), (trodAll_cons_mk (shut_int Ybdv.underlying5 w0) (trodAll_cons_mk (Below.trod Ybdv.laidOut (by kernel_rfl) (of_decide_eq_true (by kernel_rfl)) k1 bel lt1) (trodAll_cons_mk (shut_int Ybdv.underlying3 w2) (trodAll_cons_mk (shut_int Ybdv.underlying3 w3) trodAll_mk0)))), rfl, bel.frame _, fun h => by cases h⟩

end Go.Proofs.Ymwhbd.qaa

namespace Go.Proofs.Ymwhbd
/-- The statement. -/
theorem qaa_proved : Rows.LawS930021QAAWholeSaid :=
  OpenClaim.holds_of_wide 5 Ybdv.f5 rfl rfl rfl rfl rfl rfl rfl ⟨rfl, rfl, rfl, rfl, rfl⟩ rfl rfl rfl rfl rfl (by kernel_rfl) Ybdv.func5 (by kernel_rfl)
    (of_decide_eq_true (by kernel_rfl)) (by unfold Func.isWrapper; first | (rw [if_pos (by decide +kernel)]; kernel_rfl) | (rw [if_neg (by decide +kernel)]; exact ⟨rfl, rfl⟩))
    (fun os started H enc _ => qaa.lifted os started H enc)
end Go.Proofs.Ymwhbd
