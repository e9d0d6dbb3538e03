import Derived.Test.YmwhbdArr
import Derived.Test.YmwhbdRem
import Derived.Test.YmwhbdCycP
namespace Go.Proofs.Ymwhbd
open Go.RowKit
set_option linter.unusedSimpArgs false
set_option linter.unusedVariables false

set_option maxHeartbeats 1000000 in
set_option maxRecDepth 100000 in
/-- '(*Graph).IsCycle'. -/
theorem isc_any (n : Nat) (hn : n ≤ 4096) {base : Nat} {v : Value} {G : List (Int × Int)} (c : List Int) (hs : SortedE G) (hlen : G.length ≤ 100000) (hin : ∀ e ∈ G, inR (n : Int) e.1 e.2 = true) (hcl : c.length ≤ 100000) (gb C cap : Nat) (W : World)
    (hg : W.heap[gb]? = some (.cells #[.int .i64 (n : Int), v] 31 (0, 0))) (h : EsIn base W v G) (hC : C < W.heap.size) (hc : ∀ i (hi : i < c.length), W.cell? ⟨C, i, none⟩ = some (.int .i64 c[i])) :
    Calls Ybdv.prog 19 #[.pointer (some ⟨gb, 0, none⟩), .slice (some ⟨C, 0, none⟩) c.length cap] W fun e w' => e = .returned (.bool (isCyc (fun a b => hasE G (a, b)) c)) ∧ Below W.heap.size W w' := by
  have c0 := gr_cell0 hg
  have zg := lt_of_block hg
  obtain ⟨i4, hi4, h40, h41, h42⟩ := info_parts Ybdv.info4
  go_enter Ybdv.func19, Ybdv.ntmps19
  go_wp2_with (
    at_make
    refine wpList_make_full _ rfl (.tmp 11) (.tmp 11) 63 rfl W.heap.size 4 i4 _ 1 Ybdv.underlying63 hi4 h40 h41 .i64 .i64 _ _ n rfl rfl rfl rfl ?_ ?_ ?_ ?_
    · rw [h42]; omega
    · unfold maxLen; omega
    · omega)
  intro w1 ho1 hG1
  have hT1 : w1.ownsRow W.heap.size 4 1 (.slice (some ⟨W.heap.size, 0, none⟩) n n) n (tab n fun u => .bool (inO (c.take 0) (u : Int))) := by
    have : (tab n fun u => Value.bool (inO (c.take 0) (u : Int))) = (madeCells #[Value.bool false] n).toList := by
      rw [toList_madeCells_one, ← tab_const]
      simp [inO_nil]
    rw [this]; exact ho1
  have hb1 := below_grow hG1
  clear ho1 hG1
  go_wp2
  go_loopw [15] (fun i wr => ∃ k : Nat, k ≤ c.length ∧ i = .int .i64 k ∧ wr.ownsRow W.heap.size 4 1 (.slice (some ⟨W.heap.size, 0, none⟩) n n) n (tab n fun u => .bool (inO (c.take k) (u : Int))) ∧ Below W.heap.size W wr ∧ Hid (∀ j, j < k → okC (fun a b => hasE G (a, b)) c j = true))
    (fun i _ => c.length - (intOf i).toNat)
  case atStart => exact ⟨0, Nat.zero_le _, rfl, hT1, hb1, fun j hj => by omega⟩
  case round =>
    obtain ⟨k, hk, rfl, hT, hb, HK⟩ := hrel
    have lr := hb.size
    have lS : W.heap.size < wr.heap.size := (World.ownsRow.lt hT _ rfl).2
    by_cases hlt : k < c.length
    · obtain ⟨m, hm1, hm2, hm3⟩ : ∃ m : Nat, ((k : Int) + 1) % (c.length : Int) = (m : Int) ∧ m < c.length ∧ (k + 1) % c.length = m :=
        ⟨(k + 1) % c.length, by rw [Int.natCast_emod]; simp, Nat.mod_lt _ (by omega), rfl⟩
      have k0 : wr.cell? ⟨C, k, none⟩ = some (.int .i64 c[k]) := (hb.cell (p := ⟨C, k, none⟩) hC).trans (hc k hlt)
      have k1 : wr.cell? ⟨C, m, none⟩ = some (.int .i64 c[m]) := (hb.cell (p := ⟨C, m, none⟩) hC).trans (hc m hm2)
      have HOK : Hid (okC (fun a b => hasE G (a, b)) c k = (hasE G (c[k], c[m]) && !inO (c.take k) c[k])) := by
        show _ = _
        unfold okC; rw [hm3, getD_eq hlt, getD_eq hm2]
      have HTK := hide (inO_take_succ hlt)
      have hgr := (hb.block gb zg).trans hg
      have hEr := h.below' hb
      have im0 : (0 : Int) ≤ (m : Int) := by omega
      have im1 : (m : Int) < (c.length : Int) := by omega
      have ik1 : (k : Int) < (c.length : Int) := by omega
      have ilen : ¬ c.length = 0 := by omega
      have HNO := hide (fun h' => isCyc_no (p := fun a b => hasE G (a, b)) hlt h')
      generalize c[k] = x at *
      generalize c[m] = y at *
      clear hm3 hc
      cases hh : hasE G (x, y)
      · have HR : Hid (isCyc (fun a b => hasE G (a, b)) c = false) := HNO.out (by rw [HOK.out, hh]; rfl)
        go_wp2_with (
          go_at_call 18
          refine (has_any hs ?_ (n : Int) gb _ _ _ _ hgr hEr).mono ?_
          · omega
          rintro e w2 ⟨rfl, hb2⟩)
        go_ret
        exact ⟨ret_bool HR.out.symm, hb.trans (hb2.mono (by omega))⟩
      · obtain ⟨a, b, hab, ha, hbn⟩ := in_range (hin (x, y) ((hasE_iff hs _).1 hh))
        simp only [Prod.mk.injEq] at hab
        obtain ⟨rfl, rfl⟩ := hab
        have ia : (a : Int) < (n : Int) := by omega
        cases hio : inO (c.take k) (a : Int)
        · have HOK' : Hid (okC (fun a b => hasE G (a, b)) c k = true) := by show _ = _; rw [HOK.out, hh, hio]; rfl
          go_wp2_with (
            go_at_call 18
            refine (has_any hs ?_ (n : Int) gb _ _ _ _ hgr hEr).mono ?_
            · omega
            rintro e w2 ⟨rfl, hb2⟩
            have hT2 := hT.kept (grow_below hb2 none) (.inr (by simp [Value.ownBlock]))
            have t1 := tab_cell hT2 a ha
            have t3 := tab_free hT2 a
            rw [hio] at t1)
          go_roundw
          case rel =>
            refine ⟨k + 1, by omega, by go_num, ?_, (hb.trans (hb2.mono (by omega))).setCell (Nat.le_refl _) _, ?_⟩
            · refine tab_stored hT2 a _ fun i hi => ?_
              rw [HTK.out]
              by_cases hia : i = a
              · simp [hia]
              · rw [if_neg hia, show decide ((i : Int) = (a : Int)) = false by rw [decide_eq_false_iff_not]; omega]; simp
            · intro j hj
              rcases Nat.lt_or_ge j k with h' | h'
              · exact HK.out j h'
              · rw [show j = k by omega]; exact HOK'.out
          case measure => simp [intOf]; omega
        · have HR : Hid (isCyc (fun a b => hasE G (a, b)) c = false) := HNO.out (by rw [HOK.out, hio]; simp)
          go_wp2_with (
            go_at_call 18
            refine (has_any hs ?_ (n : Int) gb _ _ _ _ hgr hEr).mono ?_
            · omega
            rintro e w2 ⟨rfl, hb2⟩
            have hT2 := hT.kept (grow_below hb2 none) (.inr (by simp [Value.ownBlock]))
            have t1 := tab_cell hT2 a ha
            rw [hio] at t1)
          go_ret
          exact ⟨ret_bool HR.out.symm, hb.trans (hb2.mono (by omega))⟩
    · have HR : Hid (isCyc (fun a b => hasE G (a, b)) c = decide (0 < c.length)) := isCyc_yes fun i hi => HK.out i (by omega)
      clear hc
      go_wp2
      go_ret
      refine ⟨ret_bool ?_, hb⟩
      rw [HR.out]

/-- The model's edge test. -/
def adjP (n : Nat) (f : Nat → Bool) (a b : Int) : Bool := inR (n : Int) a b && f (a.toNat * 9 + b.toNat)

set_option maxHeartbeats 1000000 in
set_option maxRecDepth 100000 in
theorem mod_any (n : Nat) (hn : n ≤ 9) (f : Nat → Bool) (c : List Int) (hcl : c.length ≤ 100000) (A C cap : Nat) (W : World)
    (hA : ArrIn W A 55 81 (fun i => .bool (f i))) (hC : C < W.heap.size) (hc : ∀ i (hi : i < c.length), W.cell? ⟨C, i, none⟩ = some (.int .i64 c[i])) :
    Calls Ybdv.prog 20 #[.int .i64 (n : Int), .pointer (some ⟨A, 0, none⟩), .slice (some ⟨C, 0, none⟩) c.length cap] W fun e w' => e = .returned (.bool (isCyc (adjP n f) c)) ∧ Below W.heap.size W w' := by
  have zA := hA.lt
  by_cases hl0 : c.length = 0
  · have h00 : ((c.length : Int) == 0) = true := by simp [hl0]
    have HR : Hid (isCyc (adjP n f) c = false) := by
      have : c = [] := List.eq_nil_of_length_eq_zero hl0
      subst this; exact isCyc_nil _
    clear hl0 hc hA
    go_enter Ybdv.func20, Ybdv.ntmps20
    go_wp2
    go_ret
    exact ⟨ret_bool HR.out.symm, Below.refl _ _⟩
  · have h00 : ((c.length : Int) == 0) = false := by rw [beq_eq_false_iff_ne]; omega
    go_enter Ybdv.func20, Ybdv.ntmps20
    go_wp2
    go_loopw [8] (fun i wr => ∃ k : Nat, k ≤ c.length ∧ i = .int .i64 k ∧ ArrIn wr W.heap.size 54 9 (fun u => .bool (inO (c.take k) (u : Int))) ∧ Below W.heap.size W wr ∧ Hid (∀ j, j < k → okC (adjP n f) c j = true))
      (fun i _ => c.length - (intOf i).toNat)
    case atStart => exact ⟨0, Nat.zero_le _, rfl, heap_alloc_new W _, (Below.refl _ _).alloc (Nat.le_refl _) _, fun j hj => by omega⟩
    case round =>
      obtain ⟨k, hk, rfl, hT, hb, HK⟩ := hrel
      have lr := hb.size
      have lS := hT.lt
      by_cases hlt : k < c.length
      · obtain ⟨m, hm1, hm2, hm3⟩ : ∃ m : Nat, ((k : Int) + 1) % (c.length : Int) = (m : Int) ∧ m < c.length ∧ (k + 1) % c.length = m :=
          ⟨(k + 1) % c.length, by rw [Int.natCast_emod]; simp, Nat.mod_lt _ (by omega), rfl⟩
        have k0 : wr.cell? ⟨C, k, none⟩ = some (.int .i64 c[k]) := (hb.cell (p := ⟨C, k, none⟩) hC).trans (hc k hlt)
        have k1 : wr.cell? ⟨C, m, none⟩ = some (.int .i64 c[m]) := (hb.cell (p := ⟨C, m, none⟩) hC).trans (hc m hm2)
        have HOK : Hid (okC (adjP n f) c k = (adjP n f c[k] c[m] && !inO (c.take k) c[k])) := by
          show _ = _
          unfold okC; rw [hm3, getD_eq hlt, getD_eq hm2]
        have HTK := hide (inO_take_succ hlt)
        have hAr := hA.below hb zA
        have im0 : (0 : Int) ≤ (m : Int) := by omega
        have im1 : (m : Int) < (c.length : Int) := by omega
        have ik1 : (k : Int) < (c.length : Int) := by omega
        have ilen : ¬ c.length = 0 := by omega
        have HNO := hide (fun h' => isCyc_no (p := adjP n f) hlt h')
        generalize c[k] = x at *
        generalize c[m] = y at *
        clear hm3 hc
        by_cases hr : 0 ≤ x ∧ x < (n : Int) ∧ 0 ≤ y ∧ y < (n : Int)
        · obtain ⟨a, b, hab, ha, hbn⟩ := in_range (n := n) (e := (x, y)) (by simpa [inR] using hr)
          simp only [Prod.mk.injEq] at hab
          obtain ⟨rfl, rfl⟩ := hab
          have HAP : Hid (adjP n f (a : Int) (b : Int) = f (a * 9 + b)) := by
            show _ = _
            have : inR (n : Int) (a : Int) (b : Int) = true := by simp [inR]; omega
            unfold adjP; rw [this]; simp
          have ta := hAr.cell (a * 9 + b) (by omega)
          have ts := hT.cell a (by omega)
          have tf := hT.free a
          have ia : (a : Int) < (n : Int) := by omega
          have ib : (b : Int) < (n : Int) := by omega
          have ia9 : (a : Int) < 9 := by omega
          have ib9 : (b : Int) < 9 := by omega
          clear hr
          cases hf : f (a * 9 + b)
          · have HR : Hid (isCyc (adjP n f) c = false) := HNO.out (by rw [HOK.out, HAP.out, hf]; rfl)
            rw [hf] at ta
            go_wp2
            go_ret
            exact ⟨ret_bool HR.out.symm, hb⟩
          · rw [hf] at ta
            cases hio : inO (c.take k) (a : Int)
            · have HOK' : Hid (okC (adjP n f) c k = true) := by show _ = _; rw [HOK.out, HAP.out, hf, hio]; rfl
              rw [hio] at ts
              go_wp2
              go_roundw
              case rel =>
                refine ⟨k + 1, by omega, by go_num, ?_, hb.setCell (Nat.le_refl _) _, ?_⟩
                · refine hT.set a _ fun i hi => ?_
                  rw [HTK.out]
                  by_cases hia : i = a
                  · simp [hia]
                  · rw [if_neg hia, show decide ((i : Int) = (a : Int)) = false by rw [decide_eq_false_iff_not]; omega]; simp
                · intro j hj
                  rcases Nat.lt_or_ge j k with h' | h'
                  · exact HK.out j h'
                  · rw [show j = k by omega]; exact HOK'.out
              case measure => simp [intOf]; omega
            · have HR : Hid (isCyc (adjP n f) c = false) := HNO.out (by rw [HOK.out, hio]; simp)
              rw [hio] at ts
              go_wp2
              go_ret
              exact ⟨ret_bool HR.out.symm, hb⟩
        · have HR : Hid (isCyc (adjP n f) c = false) := HNO.out (by
            have : inR (n : Int) x y = false := by simpa [inR] using hr
            rw [HOK.out]; simp [adjP, this])
          by_cases h1 : x < 0
          · go_wp2
            go_ret
            exact ⟨ret_bool HR.out.symm, hb⟩
          by_cases h2 : (n : Int) ≤ x
          · go_wp2
            go_ret
            exact ⟨ret_bool HR.out.symm, hb⟩
          by_cases h3 : y < 0
          · go_wp2
            go_ret
            exact ⟨ret_bool HR.out.symm, hb⟩
          have h4 : (n : Int) ≤ y := by omega
          go_wp2
          go_ret
          exact ⟨ret_bool HR.out.symm, hb⟩
      · have HR : Hid (isCyc (adjP n f) c = true) := by
          show _ = _
          rw [isCyc_yes fun i hi => HK.out i (by omega)]
          simp; omega
        clear hc
        go_wp2
        go_ret
        exact ⟨ret_bool HR.out.symm, hb⟩

end Go.Proofs.Ymwhbd
