import Derived.Test.YmwhbdQAE
namespace Go.Proofs.Ymwhbd.qae
open Go.ChangeShapes Go.WideShapes Go.ChangeAt Go.RowKit
set_option linter.unusedVariables false

theorem open_rawInts {H : Type} {enc : TypeId × Value → H} {P : Program} {W : World} {t e fuel : Nat} {k : IntKind} {ao : Option Addr} {len cap : Nat} {x : DataW H × List MemPlace}
    (ht : P.underlying t = some (.slice e)) (he : P.underlying e = some (.int k)) (ce : P.cellsOf e = 1) (h : DataW.trod enc P W 0 (fun _ => true) true fuel t [.slice ao len cap] = some x) :
    ∃ rs : List Int, rs.length = len ∧ (∀ r ∈ rs, (Lit.int k r).wf = true) ∧ RawInts W k ao rs := by
  rcases open_ints ht he ce h with ⟨hcs, _⟩ | ⟨a, l, c, zs, hcs, _, hl, hm, hz, _, hcell, hwz⟩
  · simp at hcs
    obtain ⟨rfl, rfl, rfl⟩ := hcs
    exact ⟨[], rfl, by simp, fun i hi => by simp at hi⟩
  · simp at hcs
    obtain ⟨rfl, rfl, rfl⟩ := hcs
    simp only [if_true] at hz
    refine ⟨zs.take len, by simp; omega, fun r hr => hwz r (List.mem_of_mem_take hr), ?_⟩
    intro i hi
    have hi2 : i < len := by simp at hi; omega
    have hiz : i < zs.length := by omega
    have h0 := hcell i hiz
    obtain ⟨b, off, spot⟩ := a
    have hspot : spot = none := by
      have := World.cell?_spot (hcell 0 (by omega))
      simpa [Addr.add] using this
    subst hspot
    rw [Addr.add_lit] at h0
    refine ⟨b, off, rfl, World.block_lt_of_cell? W _ h0, ?_⟩
    rw [h0]
    simp [List.getD, hiz]

theorem walk (nr : Int) (wn : (Lit.int .u8 nr).wf = true) (dense : Bool) (ao : Option Addr) (len cap : Nat) (ps : List (Int × Int)) (hl : ps.length = len) (hps : ∀ p ∈ ps, (Lit.int .u8 p.1).wf = true ∧ (Lit.int .u8 p.2).wf = true)
    (bo : Option Addr) (blen bcap : Nat) (rs : List Int) (hbl : rs.length = blen) (hrs : ∀ r ∈ rs, (Lit.int .i8 r).wf = true) (W : World) (hraw : RawIn W .u8 ao ps) (hri : RawInts W .i8 bo rs) :
    Calls Ybdv.prog 6 #[.int .u8 nr, .bool dense, .slice ao len cap, .slice bo blen bcap] W fun e w' => e = .returned (.bool true) ∧ Below W.heap.size W w' := by
  subst hl
  subst hbl
  have hb := bounds_u8 wn
  by_cases h : ps.length ≤ 1024 ∧ rs.length ≤ 1024
  · exact qae_walk nr hb.1 hb.2 dense ao cap ps (fun p hp => by have h0 := bounds_u8 (hps p hp).1; have h1 := bounds_u8 (hps p hp).2; omega) h.1 bo bcap rs (fun r hr => bounds_i8 (hrs r hr)) h.2 W hraw hri
  · refine (qae_long nr dense ao ps.length cap bo rs.length bcap (by omega) W).mono ?_
    rintro e w' ⟨rfl, rfl⟩
    exact ⟨rfl, Below.refl _ _⟩

set_option maxRecDepth 100000 in
theorem lifted (os : Os) (started : os.Started) (H : Type) (enc : TypeId × Value → H) :
    ReturnsInHanded {} Ybdv.checked os 6 .any (Rows.lawS930021QAEWholeSpec.pre6 enc Ybdv.prog Ybdv.f6 Rows.lawS930021QAEWholeRow.domain false) (Rows.lawS930021QAEWholeSpec.post enc Ybdv.prog Ybdv.f6 false true false false) := by
  refine returnsInHanded_of_change (C := Ybdv.checked) Ybdv.own started (by kernel_rfl) Ybdv.func6
    (ChangeSpec.witness6 (enc := enc) (C := Ybdv.checked) false ⟨#[], #[.int .u8 0, .bool false, .slice none 0 0, .slice none 0 0], []⟩ 8 (by kernel_rfl) (by kernel_rfl) (by kernel_rfl) (by kernel_rfl)) ?_
  intro W base args ds gs before hval0 hW hcnd _
  have hval : ∀ (j : Nat) t v, Ybdv.f6.params[j]? = some t → args[j]? = some v → Value.okWide Ybdv.prog W .any base t v := hval0
  have hW' := hW
  obtain ⟨p, q, hA0, hV, rfl, hfz, hnd⟩ := hW
  have hA : DataW.TrodAll enc Ybdv.prog W 0 (fun _ => true) true Ybdv.f6.params.toList args.toList ds p := hA0
  rw [Ybdv.params6] at hA hval
  obtain ⟨v0, vs0, d0, ds0, p0, q0, hargs, rfl, rfl, h0, r0⟩ := trodAll_cons hA
  obtain ⟨v1, vs1, d1, ds1, p1, q1, rfl, rfl, rfl, h1, r1⟩ := trodAll_cons r0
  obtain ⟨v2, vs2, d2, ds2, p2, q2, rfl, rfl, rfl, h2, r2⟩ := trodAll_cons r1
  obtain ⟨v3, vs3, d3, ds3, p3, q3, rfl, rfl, rfl, h3, r3⟩ := trodAll_cons r2
  obtain ⟨rfl, rfl, rfl⟩ := trodAll_nil r3
  obtain rfl : args = #[v0, v1, v2, v3] := by cases args; simp_all
  obtain ⟨rfl, rfl⟩ := trodVars_none hV
  obtain ⟨a0, rfl, rfl, rfl, w0⟩ := open_int Ybdv.underlying5 (hval 0 5 v0 rfl rfl) h0
  obtain ⟨b1, rfl, rfl, rfl⟩ := open_bool Ybdv.underlying4 (hval 1 4 v1 rfl rfl) h1
  obtain ⟨a2, len2, cap2, rfl⟩ := okWide_slice Ybdv.underlying52 (hval 2 52 v2 rfl rfl)
  obtain ⟨a3, len3, cap3, rfl⟩ := okWide_slice Ybdv.underlying53 (hval 3 53 v3 rfl rfl)
  have k2 := h2
  have k3 := h3
  have lt2 : ∀ x ∈ p2, x.block < W.heap.size := by obtain ⟨m, hm⟩ := k2; exact DataW.trod_lt m _ _ _ hm
  have lt3 : ∀ x ∈ p3, x.block < W.heap.size := by obtain ⟨m, hm⟩ := k3; exact DataW.trod_lt m _ _ _ hm
  obtain ⟨ps, hl, hwf, hraw⟩ : ∃ ps : List (Int × Int), ps.length = len2 ∧ (∀ p ∈ ps, (Lit.int .u8 p.1).wf = true ∧ (Lit.int .u8 p.2).wf = true) ∧ RawIn W .u8 a2 ps := by
    obtain ⟨fuel, hf⟩ := h2
    exact open_raw2 Ybdv.underlying52 Ybdv.underlying57 (by kernel_rfl) rfl rfl (by kernel_rfl) (by kernel_rfl) Ybdv.underlying5 Ybdv.underlying5 hf
  obtain ⟨rs, hbl, hrwf, hri⟩ : ∃ rs : List Int, rs.length = len3 ∧ (∀ r ∈ rs, (Lit.int .i8 r).wf = true) ∧ RawInts W .i8 a3 rs := by
    obtain ⟨fuel, hf⟩ := h3
    exact open_rawInts Ybdv.underlying53 Ybdv.underlying58 (by kernel_rfl) hf
  clear hA0 hval0
  refine (walk a0 w0 b1 a2 len2 cap2 ps hl hwf a3 len3 cap3 rs hbl hrwf W hraw hri).mono fun e W' ⟨he, bel⟩ => ?_
  subst he
  exact ⟨_, rfl, _, _, _, [], _, [], hW', trodAll_mk1 (shut_bool Ybdv.underlying4 _), (trodAll_cons_mk (shut_int Ybdv.underlying5 w0) (trodAll_cons_mk (shut_bool Ybdv.underlying4 _) (trodAll_cons_mk (Below.trod Ybdv.laidOut (by kernel_rfl) (of_decide_eq_true (by kernel_rfl)) k2 bel lt2) (trodAll_cons_mk (Below.trod Ybdv.laidOut (by kernel_rfl) (of_decide_eq_true (by kernel_rfl)) k3 bel lt3) trodAll_mk0)))), rfl, bel.frame _, fun h => by cases h⟩

end Go.Proofs.Ymwhbd.qae

namespace Go.Proofs.Ymwhbd
/-- The statement. -/
theorem qae_proved : Rows.LawS930021QAEWholeSaid :=
  OpenClaim.holds_of_wide 6 Ybdv.f6 rfl rfl rfl rfl rfl rfl rfl ⟨rfl, rfl, rfl, rfl, rfl⟩ rfl rfl rfl rfl rfl (by kernel_rfl) Ybdv.func6 (by kernel_rfl)
    (of_decide_eq_true (by kernel_rfl)) (by unfold Func.isWrapper; first | (rw [if_pos (by decide +kernel)]; kernel_rfl) | (rw [if_neg (by decide +kernel)]; exact ⟨rfl, rfl⟩))
    (fun os started H enc _ => qae.lifted os started H enc)
end Go.Proofs.Ymwhbd
