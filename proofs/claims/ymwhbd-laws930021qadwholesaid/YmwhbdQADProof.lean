import Derived.Test.YmwhbdQAD
namespace Go.Proofs.Ymwhbd.qad
open Go.ChangeShapes Go.WideShapes Go.ChangeAt Go.RowKit
set_option linter.unusedVariables false

theorem walk (nr : Int) (wn : (Lit.int .u8 nr).wf = true) (ao : Option Addr) (len cap : Nat) (ps : List (Int × Int)) (hl : ps.length = len) (hps : ∀ p ∈ ps, (Lit.int .i64 p.1).wf = true ∧ (Lit.int .i64 p.2).wf = true) (W : World) (hraw : RawIn W .i64 ao ps) :
    Calls Ybdv.prog 7 #[.int .u8 nr, .slice ao len cap] W fun e w' => e = .returned (.bool true) ∧ Below W.heap.size W w' := by
  subst hl
  have hb := bounds_u8 wn
  by_cases h : ps.length ≤ 1024
  · obtain ⟨n, rfl⟩ := Int.eq_ofNat_of_zero_le hb.1
    exact qad_walk n (by omega) ao cap ps (fun p hp => ⟨bounds_i64 (hps p hp).1, bounds_i64 (hps p hp).2⟩) h W hraw
  · refine (qad_long nr ao ps.length cap (by omega) W).mono ?_
    rintro e w' ⟨rfl, rfl⟩
    exact ⟨rfl, Below.refl _ _⟩

set_option maxRecDepth 100000 in
theorem lifted (os : Os) (started : os.Started) (H : Type) (enc : TypeId × Value → H) :
    ReturnsInHanded {} Ybdv.checked os 7 .any (Rows.lawS930021QADWholeSpec.pre6 enc Ybdv.prog Ybdv.f7 Rows.lawS930021QADWholeRow.domain false) (Rows.lawS930021QADWholeSpec.post enc Ybdv.prog Ybdv.f7 false true false false) := by
  refine returnsInHanded_of_change (C := Ybdv.checked) Ybdv.own started (by kernel_rfl) Ybdv.func7
    (ChangeSpec.witness6 (enc := enc) (C := Ybdv.checked) false ⟨#[], #[.int .u8 0, .slice none 0 0], []⟩ 8 (by kernel_rfl) (by kernel_rfl) (by kernel_rfl) (by kernel_rfl)) ?_
  intro W base args ds gs before hval0 hW hcnd _
  have hval : ∀ (j : Nat) t v, Ybdv.f7.params[j]? = some t → args[j]? = some v → Value.okWide Ybdv.prog W .any base t v := hval0
  have hW' := hW
  obtain ⟨p, q, hA0, hV, rfl, hfz, hnd⟩ := hW
  have hA : DataW.TrodAll enc Ybdv.prog W 0 (fun _ => true) true Ybdv.f7.params.toList args.toList ds p := hA0
  rw [Ybdv.params7] at hA hval
  obtain ⟨v0, vs0, d0, ds0, p0, q0, hargs, rfl, rfl, h0, r0⟩ := trodAll_cons hA
  obtain ⟨v1, vs1, d1, ds1, p1, q1, rfl, rfl, rfl, h1, r1⟩ := trodAll_cons r0
  obtain ⟨rfl, rfl, rfl⟩ := trodAll_nil r1
  obtain rfl : args = #[v0, v1] := by cases args; simp_all
  obtain ⟨rfl, rfl⟩ := trodVars_none hV
  obtain ⟨a0, rfl, rfl, rfl, w0⟩ := open_int Ybdv.underlying5 (hval 0 5 v0 rfl rfl) h0
  obtain ⟨a1, len1, cap1, rfl⟩ := okWide_slice Ybdv.underlying23 (hval 1 23 v1 rfl rfl)
  have k1 := h1
  have lt1 : ∀ x ∈ p1, x.block < W.heap.size := by obtain ⟨m, hm⟩ := k1; exact DataW.trod_lt m _ _ _ hm
  obtain ⟨ps, hl, hwf, hraw⟩ : ∃ ps : List (Int × Int), ps.length = len1 ∧ (∀ p ∈ ps, (Lit.int .i64 p.1).wf = true ∧ (Lit.int .i64 p.2).wf = true) ∧ RawIn W .i64 a1 ps := by
    obtain ⟨fuel, hf⟩ := h1
    exact open_raw2 Ybdv.underlying23 Ybdv.underlying28 (by kernel_rfl) rfl rfl (by kernel_rfl) (by kernel_rfl) Ybdv.underlying3 Ybdv.underlying3 hf
  clear hA0 hval0
  refine (walk a0 w0 a1 len1 cap1 ps hl hwf W hraw).mono fun e W' ⟨he, bel⟩ => ?_
  subst he
  exact ⟨_, rfl, _, _, _, [], _, [], hW', trodAll_mk1 (shut_bool Ybdv.underlying4 _), (trodAll_cons_mk (shut_int Ybdv.underlying5 w0) (trodAll_cons_mk (Below.trod Ybdv.laidOut (by kernel_rfl) (of_decide_eq_true (by kernel_rfl)) k1 bel lt1) trodAll_mk0)), rfl, bel.frame _, fun h => by cases h⟩

end Go.Proofs.Ymwhbd.qad

namespace Go.Proofs.Ymwhbd
/-- The statement. -/
theorem qad_proved : Rows.LawS930021QADWholeSaid :=
  OpenClaim.holds_of_wide 7 Ybdv.f7 rfl rfl rfl rfl rfl rfl rfl ⟨rfl, rfl, rfl, rfl, rfl⟩ rfl rfl rfl rfl rfl (by kernel_rfl) Ybdv.func7 (by kernel_rfl)
    (of_decide_eq_true (by kernel_rfl)) (by unfold Func.isWrapper; first | (rw [if_pos (by decide +kernel)]; kernel_rfl) | (rw [if_neg (by decide +kernel)]; exact ⟨rfl, rfl⟩))
    (fun os started H enc _ => qad.lifted os started H enc)
end Go.Proofs.Ymwhbd
