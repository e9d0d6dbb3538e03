import Derived.Test.YmwhbdQAB
import Derived.Test.YmwhbdOrder
import Derived.Test.YmwhbdStep
namespace Go.Proofs.Ymwhbd
open Go.RowKit
set_option linter.unusedSimpArgs false
set_option linter.unusedVariables false

theorem OrdRes.form {base n : Nat} {ord : List Int} {e : Ending} {w' : World} (h : OrdRes base n ord e w') : ∃ (ag : Option Addr) (ng cg : Nat), e = .returned (.tuple #[.slice ag ng cg, .bool (decide (ord.length = n))]) ∧
    (ord.length = n → ∃ O, ag = some ⟨O, 0, none⟩ ∧ ng = n ∧ cg = n ∧ w'.ownsRow base 3 1 (.slice (some ⟨O, 0, none⟩) n n) n (ord.map (Value.int .i64))) ∧ (ord.length ≠ n → ag = none ∧ ng = 0 ∧ cg = 0) := by
  rcases h with ⟨hL, O, rfl, hO⟩ | ⟨hL, rfl⟩
  · exact ⟨_, _, _, by rw [decide_eq_true hL], fun _ => ⟨O, rfl, rfl, rfl, hO⟩, fun h' => absurd hL h'⟩
  · exact ⟨_, _, _, by rw [decide_eq_false hL], fun h' => absurd h' hL, fun _ => ⟨rfl, rfl, rfl⟩⟩

theorem wrap_small {x : Int} (h0 : 0 ≤ x) (h1 : x ≤ 1000000) : IntKind.i64.wrap x = x := by
  rw [IntKind.wrap_i64]; omega

set_option maxHeartbeats 1000000 in
set_option maxRecDepth 100000 in
theorem qac_walk (nr : Int) (h0 : 0 ≤ nr) (h1 : nr ≤ 255) (ao : Option Addr) (cap : Nat) (ps : List (Int × Int)) (hps : ∀ p ∈ ps, 0 ≤ p.1 ∧ p.1 ≤ 65535 ∧ 0 ≤ p.2 ∧ p.2 ≤ 65535) (hlen : ps.length ≤ 1024) (W : World) (hraw : RawIn W .u16 ao ps) :
    Calls Ybdv.prog 4 #[.int .u8 nr, .slice ao ps.length cap] W fun e w' => e = .returned (.bool true) ∧ Below W.heap.size W w' := by
  obtain ⟨i0, hi, hz0, hz1, hz2⟩ := info_parts Ybdv.info28
  obtain ⟨n, hn, hn1⟩ : ∃ n : Nat, nr % 41 = (n : Int) ∧ n ≤ 40 := ⟨(nr % 41).toNat, by omega, by omega⟩
  go_enter Ybdv.func4, Ybdv.ntmps4
  go_upto_if 25 with fail
  go_cut [6] (fun ve wc => ∃ xs : List (Int × Int), EsIn W.heap.size wc ve xs ∧ xs.length ≤ 1024 ∧ (∀ e ∈ xs, inR (n : Int) e.1 e.2 = true) ∧ Below W.heap.size W wc)
  case first =>
    by_cases hp : 0 < n
    · have hml : (mapMod (n : Int) ps).length = ps.length := by simp [mapMod]
      have hp' : (0 : Int) < (n : Int) := by omega
      rw [show decide (0 < n) = true by simpa using hp]
      go_wp2_with (
        at_make
        refine wpList_make_own _ rfl (.const (.int .i64 0)) (.tmp 27) 23 rfl W.heap.size 28 i0 _ 2 Ybdv.underlying23 hi hz0 hz1 .i64 .i64 _ ps.length rfl rfl ?_ ?_ ?_ ?_ ?_
        · rfl
        · rw [hz2]; omega
        · unfold maxLen; omega
        · omega
        intro w1 ho1 hG1)
      go_loopw [6, 31] (fun ve i wr => ∃ k : Nat, k ≤ ps.length ∧ i = .int .i64 k ∧ EsIn W.heap.size wr ve ((mapMod (n : Int) ps).take k) ∧ Below W.heap.size W wr)
        (fun _ i _ => ps.length - (intOf i).toNat)
      case atStart => exact ⟨0, Nat.zero_le _, rfl, by simpa [EsIn, flatE] using ho1, below_grow hG1⟩
      case round =>
        obtain ⟨k, hk, rfl, hE, hb⟩ := hrel
        have lr := hb.size
        by_cases hlt : k < ps.length
        · obtain ⟨b, off, rfl, hbl, q0, q1⟩ := hraw k hlt
          obtain ⟨r0, r1, r2, r3⟩ := hps ps[k] (List.getElem_mem hlt)
          have k0 : wr.cell? ⟨b, off + k * 2, none⟩ = some (.int .u16 ps[k].1) := (hb.cell (p := ⟨b, off + k * 2, none⟩) hbl).trans q0
          have k1 : wr.cell? ⟨b, off + k * 2 + 1, none⟩ = some (.int .u16 ps[k].2) := (hb.cell (p := ⟨b, off + k * 2 + 1, none⟩) hbl).trans q1
          have HT : Hid ((mapMod (n : Int) ps).take (k + 1) = (mapMod (n : Int) ps).take k ++ [(ps[k].1 % (n : Int), ps[k].2 % (n : Int))]) := by
            show _ = _
            rw [List.take_succ_eq_append_getElem (by omega)]; simp [mapMod]
          have hll : ((mapMod (n : Int) ps).take k).length ≤ 1000000 := by simp; omega
          generalize ps[k] = p at *
          clear q0 q1 hraw hps hml
          have z6 := hE.ownLt
          have hnz : ¬ n = 0 := by omega
          have wp1 : IntKind.i64.wrap p.1 = p.1 := wrap_small r0 (by omega)
          have wp2 : IntKind.i64.wrap p.2 = p.2 := wrap_small r2 (by omega)
          have m0 : p.1.tmod (n : Int) = p.1 % (n : Int) := Int.tmod_eq_emod_of_nonneg r0
          have m1 : p.2.tmod (n : Int) = p.2 % (n : Int) := Int.tmod_eq_emod_of_nonneg r2
          go_wp2
          have hbs : ∀ Y : Obj, W.heap.size ≤ ((wr.alloc (.cells #[.int .u16 p.1, .int .u16 p.2] 38)).alloc Y).drew.heap.size := by
            intro Y; show _ ≤ ((wr.alloc _).alloc _).heap.size; simp; omega
          have hx0 : ∀ Y : Obj, ((wr.alloc (.cells #[.int .u16 p.1, .int .u16 p.2] 38)).alloc Y).drew.cell? ⟨wr.heap.size, 0, none⟩ = some (.int .u16 p.1) := by
            intro Y; show ((wr.alloc _).alloc _).cell? _ = _; rw [World.cell?_alloc_lt _ _ _ (by simp)]; simp
          have hx1 : ∀ Y : Obj, ((wr.alloc (.cells #[.int .u16 p.1, .int .u16 p.2] 38)).alloc Y).drew.cell? ⟨wr.heap.size, 1, none⟩ = some (.int .u16 p.2) := by
            intro Y; show ((wr.alloc _).alloc _).cell? _ = _; rw [World.cell?_alloc_lt _ _ _ (by simp)]; simp
          have hx2 : some wr.heap.size ≠ u6.ownBlock := fun h' => by have := z6 _ h'.symm; omega
          have hx3 : ∀ Y : Obj, ((wr.alloc (.cells #[.int .u16 p.1, .int .u16 p.2] 38)).alloc Y).drew.heap[wr.heap.size + 1]? = some Y := by
            intro Y
            have := heap_alloc_new (wr.alloc (.cells #[.int .u16 p.1, .int .u16 p.2] 38)) Y
            rw [World.size_alloc] at this
            exact this
          have Hx3 := hide hx3
          clear hx3
          have Hbs := hide hbs
          have Hx0 := hide hx0
          have Hx1 := hide hx1
          clear hbs hx0 hx1
          go_region_held3 (fun w' => w'.cell? ⟨wr.heap.size, 0, none⟩ = some (.int .u16 p.1) ∧ w'.cell? ⟨wr.heap.size, 1, none⟩ = some (.int .u16 p.2)) (go_keep)
            ((refine step_append_es (by rfl) _ _ (by rfl) W.heap.size _ ((mapMod (n : Int) ps).take k) (by rfl) ((hE.alloc _).alloc _).drew (wr.heap.size + 1) (p.1 % (n : Int)) (p.2 % (n : Int)) (by rfl) (Hx3.out _) hll (Hbs.out _) ?_; intro g7 c7 w7 hE7 hG7; have e70 := hG7.cell (Hx0.out _) hx2; have e71 := hG7.cell (Hx1.out _) hx2))
          have hB7 : Below W.heap.size W w7 := by
            refine Below.grown ((hb.alloc (by omega) _).alloc (by simp; omega) _).drew hG7 (Hbs.out _) ?_
            intro i hi'
            exact (World.ownsRow.lt hE i hi').1
          clear hE hb hG7 e70 e71 z6 Hx0 Hx1 Hx3 Hbs hx2 k0 k1
          go_wp2
          go_roundw
          case rel => exact ⟨k + 1, by omega, by go_num, by rw [HT.out]; rw [List.length_take] at hE7; exact hE7, hB7⟩
          case measure => simp [intOf]; omega
        · go_wp2
          go_meet
          case rel =>
            have hkl : k = ps.length := by omega
            rw [hkl, List.take_of_length_le (by omega)] at hE
            refine ⟨mapMod (n : Int) ps, hE, by omega, ?_, hb⟩
            intro e he
            simp only [mapMod, List.mem_map] at he
            obtain ⟨p, hp2, rfl⟩ := he
            have a1 := Int.emod_nonneg p.1 (show (n : Int) ≠ 0 by omega)
            have a2 := Int.emod_lt_of_pos p.1 hp'
            have a3 := Int.emod_nonneg p.2 (show (n : Int) ≠ 0 by omega)
            have a4 := Int.emod_lt_of_pos p.2 hp'
            simp [inR]; omega
    · have hp' : ¬ (0 : Int) < (n : Int) := by omega
      go_wp2
      go_meet
      case rel => exact ⟨[], EsIn.nil _ _, by simp, by simp, Below.refl _ _⟩
  case rest =>
    obtain ⟨xs, hX, hxl, hin, hb⟩ := hcut
    have lc := hb.size
    have hfl := frm_eq (n : Int) xs hin
    have hfl' : (frm (n : Int) xs).length ≤ 1024 := by rw [hfl]; have := insAll_length xs; omega
    have hfin : ∀ e ∈ frm (n : Int) xs, inR (n : Int) e.1 e.2 = true := by
      intro e he; rw [hfl, mem_insAll] at he; exact hin e he
    have HPE : Hid (peelN n (frm (n : Int) xs) n = peelN n xs n) := by
      show _ = _
      exact peelN_congr (fun e => by rw [hfl, mem_insAll]) n n
    have hn0 : (0 : Int) ≤ (n : Int) := by omega
    clear hfl hraw hps
    go_wp2_with (
      first
      | (go_at_call 9
         refine (from_any (n : Int) hn0 (by omega) xs (by omega) hin _ hX).mono ?_
         rintro e w2 ⟨v2, rfl, hE2, hb2⟩
         obtain ⟨a2, c2, rfl⟩ := hE2.shape)
      | (at_make
         refine wpList_make_full _ rfl (.tmp 60) (.tmp 60) 23 rfl W.heap.size 28 i0 _ 2 Ybdv.underlying23 hi hz0 hz1 .i64 .i64 _ _ (frm (n : Int) xs).length rfl rfl rfl rfl ?_ ?_ ?_ ?_
         · rw [hz2]; omega
         · unfold maxLen; omega
         · have := hb2.size; simp; omega))
    intro w3 ho3 hG3
    have l2 := hb2.size
    have l3 := hG3.size
    simp at l3
    have hB3 : Below W.heap.size W w3 := ((hb.trans (hb2.mono lc)).alloc (by omega) _).grown hG3 (by simp; omega) (by simp)
    have hg3 := (hG3.block w2.heap.size (by simp) (by simp)).trans (heap_alloc_new w2 _)
    have hE3 := (hE2.alloc _).below' (below_grow hG3)
    have hX3 := ((hX.below' hb2).alloc _).below' (below_grow hG3)
    have lE := hE2.ownLt
    have lX := (hX.below' hb2).ownLt
    have c3 := gr_cell0 hg3
    have c3' := gr_cell1 hg3
    clear hX hE2 hb2 hG3 hb
    go_wp2_with (
      refine wpList_copy_whole _ rfl (.tmp 62) (.tmp 64) 23 rfl W.heap.size wc.heap.size 28 i0 2 Ybdv.underlying23 hi hz1 (w2.heap.size + 1) (frm (n : Int) xs).length (frm (n : Int) xs).length _ rfl ho3 _ (flatE (frm (n : Int) xs)) rfl hE3 (flatE_one _) ?_)
    intro w4 ho4 hG4
    have l4 := hG4.size
    have hB4 : Below W.heap.size W w4 := hB3.grown hG4 (by omega) (by simp; omega)
    have hg4 := (hG4.block w2.heap.size (by omega) (by simp)).trans hg3
    have hE4 := hE3.kept hG4 (.inr fun e => by have := lE _ e; omega)
    have hX4 := hX3.kept hG4 (.inr fun e => by have := lX _ e; omega)
    have hK4 : EsIn W.heap.size w4 (.slice (some ⟨w2.heap.size + 1, 0, none⟩) (frm (n : Int) xs).length (frm (n : Int) xs).length) (frm (n : Int) xs) := ho4
    clear hE3 hX3 hG4 hg3 ho3 c3 c3' ho4 hB3
    go_wp2_with (
      go_at_call 12
      refine (order_any n (by omega) (by omega) hfin w2.heap.size _ hg4 hE4).mono ?_
      rintro e w5 ⟨hres, hb5⟩
      obtain ⟨ag, ng, cg, rfl, hy1, hy2⟩ := hres.form
      have hg5 := (hb5.block w2.heap.size (by omega)).trans hg4
      have e5 := gr_cell0 hg5
      have e5' := gr_cell1 hg5)
    have l5 := hb5.size
    have hB5 : Below W.heap.size W w5 := hB4.trans (hb5.mono (by omega))
    have hE5 := hE4.below' hb5
    have hX5 := hX4.below' hb5
    have hK5 := hK4.below' hb5
    have hne := neq28
    have hgd := guard28
    obtain ⟨a2', c2', hq, _, _, hcE⟩ := hE5.form
    simp only [Value.slice.injEq, true_and] at hq
    obtain ⟨rfl, rfl⟩ := hq
    clear hE4 hX4 hK4 hb5 hg4 hB4 hE5
    obtain ⟨bo, cb, hq, _, _, hcK⟩ := hK5.form
    simp only [Value.slice.injEq, true_and] at hq
    obtain ⟨rfl, rfl⟩ := hq
    go_loopw [84] (fun i wr => ∃ k m : Nat, k ≤ (frm (n : Int) xs).length ∧ i = .int .i64 k ∧ wr = w5.drewN m) (fun i _ => (frm (n : Int) xs).length - (intOf i).toNat)
    case atStart => exact ⟨0, 0, Nat.zero_le _, rfl, rfl⟩
    case round =>
      obtain ⟨k, m, hk, rfl, rfl⟩ := hrel
      by_cases hlt : k < (frm (n : Int) xs).length
      · obtain ⟨g, rfl, _, k0, k1⟩ := hcE k hlt
        obtain ⟨g', hg', _, k2, k3⟩ := hcK k hlt
        simp only [Option.some.injEq, Addr.mk.injEq, and_true] at hg'
        subst hg'
        have ik0 : (0 : Int) ≤ (k : Int) := by omega
        have ik1 : (k : Int) < ((frm (n : Int) xs).length : Int) := by omega
        generalize (frm (n : Int) xs)[k] = p at *
        clear hcE hcK hy1 hy2
        go_wp2
        go_quiet (fail)
        go_wp2
        go_roundw
        case rel => exact ⟨k + 1, _, by omega, by go_num, rfl⟩
        case measure => simp [intOf]; omega
      · clear hcE hcK
        go_wp2_with fail
        refine (model_any n (by omega) (by omega) hin _ (hX5.drewN _)).mono ?_
        rintro e w6 ⟨hres6, hb6⟩
        rw [← HPE.out] at hres6
        obtain ⟨aw, nw, cw, rfl, hy3, hy4⟩ := hres6.form
        have hB6 : Below W.heap.size W w6 := (below_drewN hB5 _).trans (hb6.mono (show W.heap.size ≤ w5.heap.size by omega))
        have hnil := fun (w : World) (a : Option Addr) (n' c' : Nat) => Lib.run_eql_slice_nil (P := Ybdv.prog) w 39 3 a n' c' 0 0 Ybdv.underlying39
        clear hres6 hres hX5 hK5 hne hgd
        by_cases hL : (peelN n (frm (n : Int) xs) n).length = n
        · obtain ⟨O, rfl, rfl, rfl, hO⟩ := hy1 hL
          obtain ⟨O', rfl, hnw, rfl, hO'⟩ := hy3 hL
          subst hnw
          have hdT := decide_eq_true hL
          have HL := hide hL
          clear hy1 hy2 hy3 hy4 hL
          have hO6 : w6.ownsRow w4.heap.size 3 1 (.slice (some ⟨O, 0, none⟩) nw nw) nw _ := hO.kept (grow_trans (grow_drewN (World.grownBy.refl w5 none) m) (grow_below hb6 none) (by simp)) (.inr (by simp [Value.ownBlock]))
          generalize peelN nw (frm (nw : Int) xs) nw = od at *
          have hk1 : ∀ k (h : k < od.length), w6.cell? ⟨O, k, none⟩ = some (.int .i64 od[k]) := fun k h => by
            rw [World.ownsRow.cellAt hO6 k (by have := HL.out; omega)]; simp [h]
          have hk2 : ∀ k (h : k < od.length), w6.cell? ⟨O', k, none⟩ = some (.int .i64 od[k]) := fun k h => by
            rw [World.ownsRow.cellAt hO' k (by have := HL.out; omega)]; simp [h]
          clear hO hO6 hO' hb6
          go_wp2
          go_loopw [122] (fun i wr => ∃ k m : Nat, k ≤ nw ∧ i = .int .i64 k ∧ wr = w6.drewN m) (fun i _ => nw - (intOf i).toNat)
          case atStart => exact ⟨0, 0, Nat.zero_le _, rfl, rfl⟩
          case round =>
            obtain ⟨k, m, hk, rfl, rfl⟩ := hrel
            by_cases hlt : k < nw
            · have k0 := hk1 k (by have := HL.out; omega)
              have k1 := hk2 k (by have := HL.out; omega)
              have ik0 : (0 : Int) ≤ (k : Int) := by omega
              have ik1 : (k : Int) < (nw : Int) := by omega
              generalize od[k]'(by have := HL.out; omega) = p at *
              clear hk1 hk2
              go_wp2
              go_quiet (fail)
              go_wp2
              go_roundw
              case rel => exact ⟨k + 1, _, by omega, by go_num, rfl⟩
              case measure => simp [intOf]; omega
            · clear hk1 hk2
              go_wp2
              go_ret
              exact ⟨rfl, below_drewN hB6 _⟩
        · obtain ⟨rfl, rfl, rfl⟩ := hy2 hL
          obtain ⟨rfl, rfl, rfl⟩ := hy4 hL
          clear hy1 hy2 hy3 hy4
          go_wp2
          go_ret
          exact ⟨rfl, hB6⟩

set_option maxHeartbeats 400000 in
theorem qac_long (nr : Int) (ao : Option Addr) (len cap : Nat) (hlen : 1024 < len) (W : World) :
    Calls Ybdv.prog 4 #[.int .u8 nr, .slice ao len cap] W fun e w' => e = .returned (.bool true) ∧ w' = W := by
  go_enter Ybdv.func4, Ybdv.ntmps4
  go_wp2
  go_ret
  exact ⟨rfl, rfl⟩

end Go.Proofs.Ymwhbd
