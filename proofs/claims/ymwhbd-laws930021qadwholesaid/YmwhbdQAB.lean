import Derived.Test.YmwhbdG
import Derived.Test.YmwhbdCopy
import Derived.Deep.DeepCutAuto
import Derived.Test.YmwhbdOpen
namespace Go.Proofs.Ymwhbd
open Go.RowKit
set_option linter.unusedSimpArgs false
set_option linter.unusedVariables false

theorem EsIn.drewN {base : Nat} {w : World} {v : Value} {es : List (Int × Int)} (h : EsIn base w v es) (m : Nat) : EsIn base (w.drewN m) v es := h

/-! The plain law -/
def insAll (xs : List (Int × Int)) : List (Int × Int) := xs.foldl insE []
theorem insAll_snoc (xs : List (Int × Int)) (e : Int × Int) : insAll (xs ++ [e]) = insE (insAll xs) e := by simp [insAll]
theorem frm_eq_aux (n : Int) (xs : List (Int × Int)) (hin : ∀ e ∈ xs, inR n e.1 e.2 = true) (acc : List (Int × Int)) : xs.foldl (fun es e => addE n es e.1 e.2) acc = xs.foldl insE acc := by
  induction xs generalizing acc with
  | nil => rfl
  | cons x r ih =>
    simp only [List.foldl_cons]
    rw [ih (fun e he => hin e (by simp [he]))]
    congr 1
    simp [addE, hin x (by simp)]
theorem frm_eq (n : Int) (xs : List (Int × Int)) (hin : ∀ e ∈ xs, inR n e.1 e.2 = true) : frm n xs = insAll xs := frm_eq_aux n xs hin []
theorem insAll_aux (xs : List (Int × Int)) (acc : List (Int × Int)) (hs : SortedE acc) : SortedE (xs.foldl insE acc) ∧ (∀ x, x ∈ xs.foldl insE acc ↔ x ∈ xs ∨ x ∈ acc) ∧ (xs.foldl insE acc).length ≤ xs.length + acc.length := by
  induction xs generalizing acc with
  | nil => simp [hs]
  | cons y r ih =>
    obtain ⟨h1, h2, h3⟩ := ih (insE acc y) (hs.ins y)
    refine ⟨h1, fun x => ?_, ?_⟩
    · simp only [List.foldl_cons, h2, mem_insE, List.mem_cons]
      constructor
      · rintro (h | h | h)
        · exact .inl (.inr h)
        · exact .inl (.inl h)
        · exact .inr h
      · rintro ((h | h) | h)
        · exact .inr (.inl h)
        · exact .inl h
        · exact .inr (.inr h)
    · have := insE_length acc y
      simp only [List.foldl_cons, List.length_cons]; omega
theorem insAll_sorted (xs : List (Int × Int)) : SortedE (insAll xs) := (insAll_aux xs [] List.Pairwise.nil).1
theorem mem_insAll (xs : List (Int × Int)) (x : Int × Int) : x ∈ insAll xs ↔ x ∈ xs := by
  have := (insAll_aux xs [] List.Pairwise.nil).2.1 x
  unfold insAll
  simpa using this
theorem insAll_length (xs : List (Int × Int)) : (insAll xs).length ≤ xs.length := by unfold insAll; simpa using (insAll_aux xs [] List.Pairwise.nil).2.2
theorem mem_swapE (xs : List (Int × Int)) (x : Int × Int) : x ∈ swapE xs ↔ (x.2, x.1) ∈ xs := by
  simp only [swapE, List.mem_map]
  constructor
  · rintro ⟨a, ha, rfl⟩; exact ha
  · intro h; exact ⟨_, h, rfl⟩
theorem swapE_snoc (xs : List (Int × Int)) (a b : Int) : swapE (xs ++ [(a, b)]) = swapE xs ++ [(b, a)] := by simp [swapE]
theorem swap_law (n : Int) (xs : List (Int × Int)) (hin : ∀ e ∈ xs, inR n e.1 e.2 = true) : frm n (swapE (frm n xs)) = insAll (swapE xs) := by
  have h1 : frm n xs = insAll xs := frm_eq n xs hin
  have h2 : ∀ e ∈ swapE (insAll xs), inR n e.1 e.2 = true := by
    intro e he
    rw [mem_swapE, mem_insAll] at he
    have := hin _ he
    simp [inR] at this ⊢; omega
  rw [h1, frm_eq n _ h2]
  refine (insAll_sorted _).ext (insAll_sorted _) fun x => ?_
  simp only [mem_insAll, mem_swapE]

def mapMod (n : Int) (ps : List (Int × Int)) : List (Int × Int) := ps.map fun p => (p.1 % n, p.2 % n)

set_option maxHeartbeats 1000000 in
set_option maxRecDepth 100000 in
theorem qab_walk (nr : Int) (h0 : 0 ≤ nr) (h1 : nr ≤ 255) (ao : Option Addr) (cap : Nat) (ps : List (Int × Int)) (hps : ∀ p ∈ ps, 0 ≤ p.1 ∧ p.1 ≤ 65535 ∧ 0 ≤ p.2 ∧ p.2 ≤ 65535) (hlen : ps.length ≤ 1024) (W : World) (hraw : RawIn W .u16 ao ps) :
    Calls Ybdv.prog 3 #[.int .u8 nr, .slice ao ps.length cap] W fun e w' => e = .returned (.bool true) ∧ Below W.heap.size W w' := by
  obtain ⟨i0, hi, hz0, hz1, hz2⟩ := info_parts Ybdv.info28
  obtain ⟨n, hn, hn0, hn1⟩ : ∃ n, nr % 64 = n ∧ 0 ≤ n ∧ n ≤ 63 := ⟨_, rfl, by omega, by omega⟩
  go_enter Ybdv.func3, Ybdv.ntmps3
  go_upto_if 26 with (
    at_make
    refine wpList_make_own _ rfl (.const (.int .i64 0)) (.tmp 23) 23 rfl W.heap.size 28 i0 _ 2 Ybdv.underlying23 hi hz0 hz1 .i64 .i64 _ ps.length rfl rfl ?_ ?_ ?_ ?_ ?_
    · rfl
    · rw [hz2]; omega
    · unfold maxLen; omega
    · omega
    intro w1 ho1 hG1)
  go_cut [6, 7, 8] (fun ve vf vr wc => ∃ xs : List (Int × Int), EsIn W.heap.size wc ve xs ∧ EsIn W.heap.size wc vf (insAll xs) ∧ EsIn W.heap.size wc vr (insAll (swapE xs)) ∧ xs.length ≤ 1024 ∧ (∀ e ∈ xs, inR n e.1 e.2 = true) ∧ Below W.heap.size W wc)
  case first =>
    have hb1 : Below W.heap.size W w1 := below_grow hG1
    have l1 : W.heap.size < w1.heap.size := (World.ownsRow.lt ho1 _ rfl).2
    by_cases hp : 0 < n
    · have hml : (mapMod n ps).length = ps.length := by simp [mapMod]
      rw [show decide (0 < n) = true by simpa using hp]
      go_wp2
      go_loopw [6, 7, 8, 9] (fun ve vf vr i wr => ∃ k : Nat, k ≤ ps.length ∧ i = .int .i64 k ∧ ve = .slice (some ⟨W.heap.size, 0, none⟩) k ps.length ∧
          EsIn W.heap.size wr ve ((mapMod n ps).take k) ∧ EsIn (W.heap.size + 1) wr vf (insAll ((mapMod n ps).take k)) ∧ EsIn (W.heap.size + 1) wr vr (insAll (swapE ((mapMod n ps).take k))) ∧ Below W.heap.size W wr)
        (fun _ _ _ i _ => ps.length - (intOf i).toNat)
      case atStart => exact ⟨0, Nat.zero_le _, rfl, rfl, by simpa [EsIn, flatE] using ho1, EsIn.nil _ _, EsIn.nil _ _, hb1⟩
      case round =>
        obtain ⟨k, hk, rfl, rfl, hE, hF, hR, hb⟩ := hrel
        have lr := hb.size
        have lB : W.heap.size < wr.heap.size := by have := hE.ownLt _ rfl; exact this
        by_cases hlt : k < ps.length
        · obtain ⟨b, off, rfl, hbl, q0, q1⟩ := hraw k hlt
          obtain ⟨r0, r1, r2, r3⟩ := hps ps[k] (List.getElem_mem hlt)
          have k0 : wr.cell? ⟨b, off + k * 2, none⟩ = some (.int .u16 ps[k].1) := (hb.cell (p := ⟨b, off + k * 2, none⟩) hbl).trans q0
          have k1 : wr.cell? ⟨b, off + k * 2 + 1, none⟩ = some (.int .u16 ps[k].2) := (hb.cell (p := ⟨b, off + k * 2 + 1, none⟩) hbl).trans q1
          have HT : Hid ((mapMod n ps).take (k + 1) = (mapMod n ps).take k ++ [(ps[k].1 % n, ps[k].2 % n)]) := by
            show _ = _
            rw [List.take_succ_eq_append_getElem (by omega)]; simp [mapMod]
          have hE0 : wr.ownsRow W.heap.size 28 2 (.slice (some ⟨W.heap.size, 0, none⟩) k ps.length) k (flatE ((mapMod n ps).take k)) := by
            have := hE; unfold EsIn at this; rwa [List.length_take, Nat.min_eq_left (by omega)] at this
          have hlF : (insAll ((mapMod n ps).take k)).length ≤ 1000000 := by have := insAll_length ((mapMod n ps).take k); simp at this; omega
          have hlR : (insAll (swapE ((mapMod n ps).take k))).length ≤ 1000000 := by have := insAll_length (swapE ((mapMod n ps).take k)); simp [swapE] at this; simp [swapE]; omega
          generalize ps[k] = p at *
          have hml' : min k (mapMod n ps).length = k := by omega
          clear q0 q1 hE hraw hps hml
          go_wp2_with (
            at_builtin
            refine wpList_append_fits _ rfl (.tmp 49) (.tmp 53) 23 rfl W.heap.size 28 i0 2 Ybdv.underlying23 hi hz1 W.heap.size k ps.length _ rfl (hE0.alloc _) ⟨wr.heap.size, 0, none⟩ 1 1 [.int .i64 (p.1 % n), .int .i64 (p.2 % n)] rfl rfl ?_ ?_ ?_ ?_
            · intro j y hj
              rw [Addr.add_lit]
              match j, hj with
              | 0, hj => simp at hj; subst hj; simp
              | 1, hj => simp at hj; subst hj; simp
            · exact flatE_one [(p.1 % n, p.2 % n)]
            · omega
            intro w2 ho2 hG2)
          have l2 := hG2.size
          simp at l2
          have hb2 : Below W.heap.size W w2 := (hb.alloc (by omega) _).grown hG2 (by simp; omega) (by simp)
          have hF2 := (hF.alloc _).keptLo hG2 (by omega)
          have hR2 := (hR.alloc _).keptLo hG2 (by omega)
          clear hF hR hG2 hE0 k0 k1
          refine (ins_any (base := W.heap.size + 1) hlF _ _ _ hF2 (by omega)).mono ?_
          rintro e w3 ⟨v3, rfl, hF3, hb3⟩
          have l3 := hb3.size
          have hR3 := hR2.below' hb3
          have ho3 : w3.ownsRow W.heap.size 28 2 (.slice (some ⟨W.heap.size, 0, none⟩) (k + 1) ps.length) (k + 1) _ := ho2.kept (grow_below hb3 none) (.inr (by simp [Value.ownBlock]))
          have hB3 := hb2.trans (hb3.mono (show W.heap.size ≤ w2.heap.size by omega))
          clear hF2 hR2 ho2 hb3 hb2
          go_wp2_with fail
          refine (ins_any (base := W.heap.size + 1) hlR _ _ _ hR3 (by omega)).mono ?_
          rintro e w4 ⟨v4, rfl, hR4, hb4⟩
          have hF4 := hF3.below' hb4
          have ho4 : w4.ownsRow W.heap.size 28 2 (.slice (some ⟨W.heap.size, 0, none⟩) (k + 1) ps.length) (k + 1) _ := ho3.kept (grow_below hb4 none) (.inr (by simp [Value.ownBlock]))
          have hB4 := hB3.trans (hb4.mono (show W.heap.size ≤ w3.heap.size by omega))
          clear hF3 hR3 ho3 hb4 hB3
          go_wp2
          go_roundw
          case rel =>
            refine ⟨k + 1, by omega, by go_num, rfl, ?_, ?_, ?_, hB4⟩
            · unfold EsIn; rw [HT.out, flatE_append]; simpa [flatE, hml'] using ho4
            · rw [HT.out, insAll_snoc]; exact hF4
            · rw [HT.out, swapE_snoc, insAll_snoc]; exact hR4
          case measure => simp [intOf]; omega
        · go_wp2
          go_meet
          case rel =>
            have hkl : k = ps.length := by omega
            rw [hkl, List.take_of_length_le (by omega)] at hE hF hR
            rw [hkl]
            refine ⟨mapMod n ps, hE, hF.rebase ?_, hR.rebase ?_, by omega, ?_, hb⟩
            · intro i hi; have := (World.ownsRow.lt hF i hi).1; omega
            · intro i hi; have := (World.ownsRow.lt hR i hi).1; omega
            · intro e he
              simp only [mapMod, List.mem_map] at he
              obtain ⟨p, hp', rfl⟩ := he
              have a1 := Int.emod_nonneg p.1 (show n ≠ 0 by omega)
              have a2 := Int.emod_lt_of_pos p.1 hp
              have a3 := Int.emod_nonneg p.2 (show n ≠ 0 by omega)
              have a4 := Int.emod_lt_of_pos p.2 hp
              simp [inR]; omega
    · go_wp2
      go_meet
      case rel => exact ⟨[], by simpa [EsIn, flatE] using ho1, EsIn.nil _ _, EsIn.nil _ _, by simp, by simp, hb1⟩
  case rest =>
    obtain ⟨xs, hX, hF, hR, hxl, hin, hb⟩ := hcut
    have lc := hb.size
    have hfl := frm_eq n xs hin
    have hsw := swap_law n xs hin
    have hfl' : (frm n xs).length ≤ 1024 := by rw [hfl]; have := insAll_length xs; omega
    have HFL := hide hfl
    have HSW := hide hsw
    clear hfl hsw hG1 ho1 hraw hps
    go_wp2_with (
      first
      | (go_at_call 9
         refine (from_any n hn0 (by omega) xs (by omega) hin _ hX).mono ?_
         rintro e w2 ⟨v2, rfl, hE2, hb2⟩
         obtain ⟨a2, c2, rfl⟩ := hE2.shape)
      | (at_make
         refine wpList_make_full _ rfl (.tmp 75) (.tmp 75) 23 rfl W.heap.size 28 i0 _ 2 Ybdv.underlying23 hi hz0 hz1 .i64 .i64 _ _ (frm n xs).length rfl rfl rfl rfl ?_ ?_ ?_ ?_
         · rw [hz2]; omega
         · unfold maxLen; omega
         · have := hb2.size; simp; omega))
    intro w3 ho3 hG3
    have l2 := hb2.size
    have l3 := hG3.size
    simp at l3
    have hB3 : Below W.heap.size W w3 := ((hb.trans (hb2.mono lc)).alloc (by omega) _).grown hG3 (by simp; omega) (by simp)
    have hg3 := (hG3.block w2.heap.size (by simp) (by simp)).trans (heap_alloc_new w2 _)
    have hE3 := (hE2.alloc _).below' (below_grow hG3)
    have hF3 := ((hF.below' hb2).alloc _).below' (below_grow hG3)
    have hR3 := ((hR.below' hb2).alloc _).below' (below_grow hG3)
    have lE := hE2.ownLt
    have lF := (hF.below' hb2).ownLt
    have lR := (hR.below' hb2).ownLt
    have c3 := gr_cell0 hg3
    have c3' := gr_cell1 hg3
    clear hX hF hR hE2 hb2 hG3 hb
    go_wp2_with (
      refine wpList_copy_whole _ rfl (.tmp 77) (.tmp 79) 23 rfl W.heap.size wc.heap.size 28 i0 2 Ybdv.underlying23 hi hz1 (w2.heap.size + 1) (frm n xs).length (frm n xs).length _ rfl ho3 _ (flatE (frm n xs)) rfl hE3 (flatE_one _) ?_)
    intro w4 ho4 hG4
    have l4 := hG4.size
    have hB4 : Below W.heap.size W w4 := hB3.grown hG4 (by omega) (by simp; omega)
    have hg4 := (hG4.block w2.heap.size (by omega) (by simp)).trans hg3
    have hE4 := hE3.kept hG4 (.inr fun e => by have := lE _ e; omega)
    have hF4 := hF3.kept hG4 (.inr fun e => by have := lF _ e; omega)
    have hR4 := hR3.kept hG4 (.inr fun e => by have := lR _ e; omega)
    have hK4 : EsIn W.heap.size w4 (.slice (some ⟨w2.heap.size + 1, 0, none⟩) (frm n xs).length (frm n xs).length) (frm n xs) := ho4
    clear hE3 hF3 hR3 hG4 hg3 ho3 c3 c3' ho4 hB3
    go_wp2_with (
      go_at_call 10
      refine (trp_any n (frm n xs) (by omega) _ _ hg4 hE4).mono ?_
      rintro e w5 ⟨v5, rfl, hT5, hb5⟩
      obtain ⟨a5, c5, rfl⟩ := hT5.shape
      have hg5 := (hb5.block w2.heap.size (by omega)).trans hg4
      have e5 := gr_cell0 hg5
      have e5' := gr_cell1 hg5)
    have l5 := hb5.size
    have hB5 : Below W.heap.size W w5 := hB4.trans (hb5.mono (by omega))
    have hE5 := hE4.below' hb5
    have hF5 := hF4.below' hb5
    have hR5 := hR4.below' hb5
    have hK5 := hK4.below' hb5
    have lT : (frm n (swapE (frm n xs))).length ≤ 1000000 := by have := (frm_ok n (swapE (frm n xs)) (swapE (frm n xs)).length).2; rw [List.take_of_length_le (Nat.le_refl _)] at this; simp [swapE] at this; simp [swapE]; omega
    have lI : (insAll xs).length ≤ 1000000 := by have := insAll_length xs; omega
    have lJ : (insAll (swapE xs)).length ≤ 1000000 := by have := insAll_length (swapE xs); simp [swapE] at this; simp [swapE]; omega
    have z5 : w2.heap.size < w5.heap.size := by omega
    clear hE4 hF4 hR4 hK4 hb5 hg4 hB4
    refine (eq_any _ (hT5.alloc _) (hR5.alloc _) lT lJ).mono ?_
    rintro e w6 ⟨rfl, m6, rfl⟩
    rw [show decide (frm n (swapE (frm n xs)) = insAll (swapE xs)) = true by rw [decide_eq_true_iff]; exact HSW.out]
    go_wp2_with fail
    refine (eq_any _ ((hE5.alloc _).drewN _) ((hK5.alloc _).drewN _) (by omega) (by omega)).mono ?_
    rintro e w7 ⟨rfl, m7, rfl⟩
    rw [show decide (frm n xs = frm n xs) = true by simp]
    go_wp2_with fail
    refine (eq_any _ ((hE5.alloc _).drewN _) ((hF5.alloc _).drewN _) (by omega) lI).mono ?_
    rintro e w8 ⟨rfl, m8, rfl⟩
    rw [show decide (frm n xs = insAll xs) = true by rw [decide_eq_true_iff]; exact HFL.out]
    go_wp2_with fail
    go_ret
    exact ⟨rfl, below_drewN (hB5.alloc (by omega) _) _⟩

set_option maxHeartbeats 400000 in
theorem qab_long (nr : Int) (ao : Option Addr) (len cap : Nat) (hlen : 1024 < len) (W : World) :
    Calls Ybdv.prog 3 #[.int .u8 nr, .slice ao len cap] W fun e w' => e = .returned (.bool true) ∧ w' = W := by
  go_enter Ybdv.func3, Ybdv.ntmps3
  go_wp2
  go_ret
  exact ⟨rfl, rfl⟩

end Go.Proofs.Ymwhbd
