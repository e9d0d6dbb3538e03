import Derived.Test.YmwhbdE
namespace Go.Proofs.Ymwhbd
open Go.RowKit
set_option linter.unusedSimpArgs false
set_option linter.unusedVariables false

/-- One form for a nil slice and any other. -/
theorem EsIn.form {base : Nat} {w : World} {v : Value} {es : List (Int × Int)} (h : EsIn base w v es) : ∃ ao cap, v = .slice ao es.length cap ∧ es.length ≤ cap ∧ (ao = none → es = [] ∧ cap = 0) ∧
    ∀ i (hi : i < es.length), ∃ g, ao = some ⟨g, 0, none⟩ ∧ g < w.heap.size ∧ w.cell? ⟨g, i * 2, none⟩ = some (.int .i64 es[i].1) ∧ w.cell? ⟨g, i * 2 + 1, none⟩ = some (.int .i64 es[i].2) := by
  rcases h.view with ⟨rfl, rfl⟩ | ⟨g, cap, rfl, _, hg, hn, _, hc⟩
  · exact ⟨none, 0, rfl, by simp, fun _ => ⟨rfl, rfl⟩, fun i hi => by simp at hi⟩
  · exact ⟨_, _, rfl, hn, by simp, fun i hi => ⟨g, rfl, hg, (hc i hi).1, (hc i hi).2⟩⟩

theorem ret_bool {a b : Bool} (h : a = b) : Ending.returned (.bool a) = .returned (.bool b) := by rw [h]

set_option maxHeartbeats 400000 in
/-- 'zzs930021qabeq': are the two lists equal? -/
theorem eq_any {base base' : Nat} {va vb : Value} {xs ys : List (Int × Int)} (w : World) (ha : EsIn base w va xs) (hb : EsIn base' w vb ys) (hx : xs.length ≤ 1000000) (hy : ys.length ≤ 1000000) :
    Calls Ybdv.prog 11 #[va, vb] w fun e w' => e = .returned (.bool (decide (xs = ys))) ∧ ∃ m, w' = w.drewN m := by
  obtain ⟨ao, ca, rfl, _, _, hca⟩ := ha.form
  obtain ⟨bo, cb, rfl, _, _, hcb⟩ := hb.form
  clear ha hb
  by_cases hl : xs.length = ys.length
  · have h0 : ((xs.length : Int) != (ys.length : Int)) = false := by simp [hl]
    have HL := hide hl
    have hl1 : xs.length ≤ ys.length := by omega
    have hl2 : ys.length ≤ xs.length := by omega
    clear hl
    go_enter Ybdv.func11, Ybdv.ntmps11
    go_wp2
    go_loopw [5] (fun i wr => ∃ k m : Nat, k ≤ xs.length ∧ i = .int .i64 k ∧ Hid (xs.take k = ys.take k) ∧ wr = w.drewN m) (fun i _ => xs.length - (intOf i).toNat)
    case atStart => exact ⟨0, 0, Nat.zero_le _, rfl, show _ = _ by simp, rfl⟩
    case round =>
      obtain ⟨k, m, hk, rfl, HT, rfl⟩ := hrel
      by_cases hlt : k < xs.length
      · obtain ⟨g, rfl, _, k0, k1⟩ := hca k hlt
        obtain ⟨g', rfl, _, k2, k3⟩ := hcb k (by omega)
        have i0 : (0 : Int) ≤ (k : Int) := by omega
        have i1 : (k : Int) < (xs.length : Int) := by omega
        have i2 : (k : Int) < (ys.length : Int) := by omega
        have HX := hide (List.take_succ_eq_append_getElem hlt)
        have HY := hide (List.take_succ_eq_append_getElem (show k < ys.length by omega))
        have HGX := hide (List.getElem?_eq_getElem hlt)
        have HGY := hide (List.getElem?_eq_getElem (show k < ys.length by omega))
        have hne := neq28
        have hgd := guard28
        generalize xs[k] = p at *
        generalize ys[k] = q at *
        clear hca hcb
        by_cases hpq : p = q
        · subst hpq
          have ht : (!(p.1 == p.1 && p.2 == p.2)) = false := by simp
          go_wp2
          go_quiet (fail)
          go_wp2
          go_roundw
          case rel => exact ⟨k + 1, _, by omega, by go_num, show _ = _ by rw [HX.out, HY.out, HT.out], rfl⟩
          case measure => simp [intOf]; omega
        · have ht : (!(p.1 == q.1 && p.2 == q.2)) = true := by rw [← pairB]; simpa using hpq
          go_wp2
          go_quiet (fail)
          go_wp2
          go_ret
          refine ⟨ret_bool (show false = _ from ?_), _, World.drewN_drewN _ _ _⟩
          symm; rw [decide_eq_false_iff_not]; intro h
          have h1 := HGX.out; have h2 := HGY.out
          rw [h] at h1; rw [h1] at h2; exact hpq (Option.some.inj h2)
      · go_wp2
        go_ret
        refine ⟨ret_bool (show true = _ from ?_), _, rfl⟩
        symm; rw [decide_eq_true_iff]
        have := HT.out
        rwa [List.take_of_length_le (by omega), List.take_of_length_le (by omega)] at this
  · have h0 : ((xs.length : Int) != (ys.length : Int)) = true := by rw [bne_iff_ne]; omega
    have HD : Hid (decide (xs = ys) = false) := by show _ = _; rw [decide_eq_false_iff_not]; intro h; exact hl (by rw [h])
    clear hl
    go_enter Ybdv.func11, Ybdv.ntmps11
    go_wp2
    go_ret
    exact ⟨ret_bool HD.out.symm, 0, rfl⟩

end Go.Proofs.Ymwhbd
