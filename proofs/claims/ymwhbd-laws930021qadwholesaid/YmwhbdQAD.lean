import Derived.Test.YmwhbdMod
import Derived.Test.YmwhbdCycle
import Derived.Test.YmwhbdMat
import Derived.Deep.DeepCutAuto
import Derived.Deep.CutBlock
namespace Go.Proofs.Ymwhbd
open Go.RowKit
set_option linter.unusedSimpArgs false
set_option linter.unusedVariables false

theorem cyc_any (n : Nat) (hn : n ≤ 4096) {base : Nat} {v : Value} {es : List (Int × Int)} (hlen : es.length ≤ 100000) (hin : ∀ e ∈ es, inR (n : Int) e.1 e.2 = true) (gb : Nat) (W : World)
    (hg : W.heap[gb]? = some (.cells #[.int .i64 (n : Int), v] 31 (0, 0))) (h : EsIn base W v es) :
    Calls Ybdv.prog 22 #[.pointer (some ⟨gb, 0, none⟩)] W fun e w' => ∃ ag ng cg okb, e = .returned (.tuple #[.slice ag ng cg, .bool okb]) ∧ Below W.heap.size W w' ∧
      Hid (((peelN n es n).length = n → ag = none ∧ ng = 0 ∧ cg = 0 ∧ okb = false) ∧
       ((peelN n es n).length ≠ n → ∃ R : Nat, ag = some ⟨R, 0, none⟩ ∧ ng = (cycRes (predV es (peelN n es n)) n (peelN n es n)).length ∧ cg = ng ∧ okb = true ∧
         w'.ownsRow W.heap.size 3 1 (.slice (some ⟨R, 0, none⟩) ng ng) ng ((rotM (cycRes (predV es (peelN n es n)) n (peelN n es n))).map (Value.int .i64)) ∧ 0 < ng)) := by
  by_cases hl : (peelN n es n).length = n
  · refine (cyc_none n hn hlen hin gb W hg h hl).mono ?_
    rintro e w' ⟨rfl, hb⟩
    exact ⟨_, _, _, _, rfl, hb, fun _ => ⟨rfl, rfl, rfl, rfl⟩, fun h' => absurd hl h'⟩
  · refine (cyc_some n hn hlen hin gb W hg h hl).mono ?_
    rintro e w' ⟨R, rfl, ho, h0, hb⟩
    exact ⟨_, _, _, _, rfl, hb, fun h' => absurd h' hl, fun _ => ⟨R, rfl, rfl, rfl, rfl, ho, h0⟩⟩

set_option maxHeartbeats 4000000 in
set_option maxRecDepth 100000 in
theorem qad_walk (n : Nat) (h1 : n ≤ 255) (ao : Option Addr) (cap : Nat) (ps : List (Int × Int)) (hps : ∀ p ∈ ps, (-9223372036854775808 ≤ p.1 ∧ p.1 ≤ 9223372036854775807) ∧ (-9223372036854775808 ≤ p.2 ∧ p.2 ≤ 9223372036854775807)) (hlen : ps.length ≤ 1024) (W : World) (hraw : RawIn W .i64 ao ps) :
    Calls Ybdv.prog 7 #[.int .u8 (n : Int), .slice ao ps.length cap] W fun e w' => e = .returned (.bool true) ∧ Below W.heap.size W w' := by
  obtain ⟨i0, hi, hz0, hz1, hz2⟩ := info_parts Ybdv.info28
  obtain ⟨i3, hi3, h30, h31, h32⟩ := info_parts Ybdv.info3
  obtain ⟨i4, hi4, h40, h41, h42⟩ := info_parts Ybdv.info4
  go_enter Ybdv.func7, Ybdv.ntmps7
  go_upto_if 47 with (
    at_make
    refine wpList_make_own _ rfl (.const (.int .i64 0)) (.tmp 44) 23 rfl W.heap.size 28 i0 _ 2 Ybdv.underlying23 hi hz0 hz1 .i64 .i64 _ ps.length rfl rfl rfl ?_ ?_ ?_ ?_
    · rw [hz2]; omega
    · unfold maxLen; omega
    · omega
    intro w1 ho1 hG1)
  have hE0 : EsIn W.heap.size w1 (.slice (some ⟨W.heap.size, 0, none⟩) 0 ps.length) [] := by simpa [EsIn, flatE] using ho1
  have hb1 := below_grow hG1
  clear ho1 hG1
  go_cut [6] (fun ve wc => ∃ xs : List (Int × Int), EsIn W.heap.size wc ve xs ∧ xs.length ≤ 1024 ∧ (∀ e ∈ xs, inR (n : Int) e.1 e.2 = true) ∧ Below W.heap.size W wc)
  case first =>
    as_aux_lemma =>
    by_cases hp : 0 < n
    · have hml : (mapMod (n : Int) ps).length = ps.length := by simp [mapMod]
      have hp' : (0 : Int) < (n : Int) := by omega
      rw [show decide (0 < n) = true by simpa using hp]
      go_wp2
      go_loopw [6, 50] (fun ve i wr => ∃ k : Nat, k ≤ ps.length ∧ i = .int .i64 k ∧ EsIn W.heap.size wr ve ((mapMod (n : Int) ps).take k) ∧ Below W.heap.size W wr)
        (fun _ i _ => ps.length - (intOf i).toNat)
      case atStart => exact ⟨0, Nat.zero_le _, rfl, by simpa using hE0, hb1⟩
      case round =>
        clear hE0 hb1
        obtain ⟨k, hk, rfl, hE, hb⟩ := hrel
        have lr := hb.size
        by_cases hlt : k < ps.length
        · obtain ⟨b, off, rfl, hbl, q0, q1⟩ := hraw k hlt
          obtain ⟨r0, r1⟩ := hps ps[k] (List.getElem_mem hlt)
          have k0 : wr.cell? ⟨b, off + k * 2, none⟩ = some (.int .i64 ps[k].1) := (hb.cell (p := ⟨b, off + k * 2, none⟩) hbl).trans q0
          have k1 : wr.cell? ⟨b, off + k * 2 + 1, none⟩ = some (.int .i64 ps[k].2) := (hb.cell (p := ⟨b, off + k * 2 + 1, none⟩) hbl).trans q1
          have HT : Hid ((mapMod (n : Int) ps).take (k + 1) = (mapMod (n : Int) ps).take k ++ [(ps[k].1 % (n : Int), ps[k].2 % (n : Int))]) := by
            show _ = _
            rw [List.take_succ_eq_append_getElem (by omega)]; simp [mapMod]
          have hll : ((mapMod (n : Int) ps).take k).length ≤ 1000000 := by simp; omega
          generalize ps[k] = p at *
          clear q0 q1 hraw hps hml
          have z6 := hE.ownLt
          go_wp2
          have hbs : ∀ Y : Obj, W.heap.size ≤ ((wr.alloc (.cells #[.int .i64 p.1, .int .i64 p.2] 28)).alloc Y).drew.heap.size := by
            intro Y; show _ ≤ ((wr.alloc _).alloc _).heap.size; simp; omega
          have hx0 : ∀ Y : Obj, ((wr.alloc (.cells #[.int .i64 p.1, .int .i64 p.2] 28)).alloc Y).drew.cell? ⟨wr.heap.size, 0, none⟩ = some (.int .i64 p.1) := by
            intro Y; show ((wr.alloc _).alloc _).cell? _ = _; rw [World.cell?_alloc_lt _ _ _ (by simp)]; simp
          have hx1 : ∀ Y : Obj, ((wr.alloc (.cells #[.int .i64 p.1, .int .i64 p.2] 28)).alloc Y).drew.cell? ⟨wr.heap.size, 1, none⟩ = some (.int .i64 p.2) := by
            intro Y; show ((wr.alloc _).alloc _).cell? _ = _; rw [World.cell?_alloc_lt _ _ _ (by simp)]; simp
          have hx2 : some wr.heap.size ≠ u6.ownBlock := fun h' => by have := z6 _ h'.symm; omega
          have hx3 : ∀ Y : Obj, ((wr.alloc (.cells #[.int .i64 p.1, .int .i64 p.2] 28)).alloc Y).drew.heap[wr.heap.size + 1]? = some Y := by
            intro Y
            have := heap_alloc_new (wr.alloc (.cells #[.int .i64 p.1, .int .i64 p.2] 28)) Y
            rw [World.size_alloc] at this
            exact this
          have Hx3 := hide hx3
          clear hx3
          have Hbs := hide hbs
          have Hx0 := hide hx0
          have Hx1 := hide hx1
          clear hbs hx0 hx1
          go_region_held3 (fun w' => w'.cell? ⟨wr.heap.size, 0, none⟩ = some (.int .i64 p.1) ∧ w'.cell? ⟨wr.heap.size, 1, none⟩ = some (.int .i64 p.2)) (go_keep)
            (first
             | (go_at_call 21; refine (Ybdv_mod _ n hp h1 (by first | exact r0 | exact r1) _).mono ?_; rintro e w' ⟨rfl, rfl⟩)
             | (refine step_append_es (by rfl) _ _ (by rfl) W.heap.size _ ((mapMod (n : Int) ps).take k) (by rfl) ((hE.alloc _).alloc _).drew (wr.heap.size + 1) (p.1 % (n : Int)) (p.2 % (n : Int)) (by rfl) (Hx3.out _) hll (Hbs.out _) ?_; intro g7 c7 w7 hE7 hG7; have e70 := hG7.cell (Hx0.out _) hx2; have e71 := hG7.cell (Hx1.out _) hx2))
          all_goals
            have hB7 : Below W.heap.size W w7 := by
              refine Below.grown ((hb.alloc (by omega) _).alloc (by simp; omega) _).drew hG7 (Hbs.out _) ?_
              intro i hi'
              exact (World.ownsRow.lt hE i hi').1
            clear hE hb hG7 e70 e71 z6 Hx0 Hx1 Hx3 Hbs hx2 k0 k1
            go_wp2
            go_roundw
            case rel => exact ⟨k + 1, by omega, by go_num, by rw [HT.out]; rw [List.length_take] at hE7; exact hE7, hB7⟩
            case measure => simp [intOf]; omega
        · go_wp2
          go_meet
          case rel =>
            have hkl : k = ps.length := by omega
            rw [hkl, List.take_of_length_le (by omega)] at hE
            refine ⟨mapMod (n : Int) ps, hE, by omega, ?_, hb⟩
            intro e he
            simp only [mapMod, List.mem_map] at he
            obtain ⟨p, hp2, rfl⟩ := he
            have a1 := Int.emod_nonneg p.1 (show (n : Int) ≠ 0 by omega)
            have a2 := Int.emod_lt_of_pos p.1 hp'
            have a3 := Int.emod_nonneg p.2 (show (n : Int) ≠ 0 by omega)
            have a4 := Int.emod_lt_of_pos p.2 hp'
            simp [inR]; omega
    · have hp' : ¬ (0 : Int) < (n : Int) := by omega
      go_wp2
      go_meet
      case rel => exact ⟨[], hE0, by simp, by simp, hb1⟩
  case rest =>
    obtain ⟨xs, hX, hxl, hin, hb⟩ := hcut
    clear hE0 hb1 hraw hps
    have lc := hb.size
    have hfl := frm_eq (n : Int) xs hin
    have hfl' : (frm (n : Int) xs).length ≤ 1024 := by rw [hfl]; have := insAll_length xs; omega
    have hfin : ∀ e ∈ frm (n : Int) xs, inR (n : Int) e.1 e.2 = true := by
      intro e he; rw [hfl, mem_insAll] at he; exact hin e he
    have HPE : Hid (peelN n (frm (n : Int) xs) n = peelN n xs n) := by
      show _ = _
      exact peelN_congr (fun e => by rw [hfl, mem_insAll]) n n
    have HFE : Hid (frm (n : Int) xs = insAll xs) := hfl
    have hn0 : (0 : Int) ≤ (n : Int) := by omega
    clear hfl
    go_wp2_with (
      first
      | (go_at_call 9
         refine (from_any (n : Int) hn0 (by omega) xs (by omega) hin _ hX).mono ?_
         rintro e w2 ⟨v2, rfl, hE2, hb2⟩
         obtain ⟨a2, c2, rfl⟩ := hE2.shape)
      | (at_make
         refine wpList_make_full _ rfl (.tmp 77) (.tmp 77) 23 rfl W.heap.size 28 i0 _ 2 Ybdv.underlying23 hi hz0 hz1 .i64 .i64 _ _ (frm (n : Int) xs).length rfl rfl rfl rfl ?_ ?_ ?_ ?_
         · rw [hz2]; omega
         · unfold maxLen; omega
         · have := hb2.size; simp; omega))
    intro w3 ho3 hG3
    have l2 := hb2.size
    have l3 := hG3.size
    simp at l3
    have hB3 : Below W.heap.size W w3 := ((hb.trans (hb2.mono lc)).alloc (by omega) _).grown hG3 (by simp; omega) (by simp)
    have hg3 := (hG3.block w2.heap.size (by simp) (by simp)).trans (heap_alloc_new w2 _)
    have hE3 := (hE2.alloc _).below' (below_grow hG3)
    have hX3 := ((hX.below' hb2).alloc _).below' (below_grow hG3)
    have lE := hE2.ownLt
    have lX := (hX.below' hb2).ownLt
    have c3 := gr_cell0 hg3
    have c3' := gr_cell1 hg3
    clear hX hE2 hb2 hG3 hb
    go_wp2_with (
      refine wpList_copy_whole _ rfl (.tmp 79) (.tmp 81) 23 rfl W.heap.size wc.heap.size 28 i0 2 Ybdv.underlying23 hi hz1 (w2.heap.size + 1) (frm (n : Int) xs).length (frm (n : Int) xs).length _ rfl ho3 _ (flatE (frm (n : Int) xs)) rfl hE3 (flatE_one _) ?_)
    intro w4 ho4 hG4
    have l4 := hG4.size
    have hB4 : Below W.heap.size W w4 := hB3.grown hG4 (by omega) (by simp; omega)
    have hg4 := (hG4.block w2.heap.size (by omega) (by simp)).trans hg3
    have hE4 := hE3.kept hG4 (.inr fun e => by have := lE _ e; omega)
    have hX4 := hX3.kept hG4 (.inr fun e => by have := lX _ e; omega)
    have hK4 : EsIn W.heap.size w4 (.slice (some ⟨w2.heap.size + 1, 0, none⟩) (frm (n : Int) xs).length (frm (n : Int) xs).length) (frm (n : Int) xs) := ho4
    clear hE3 hX3 hG4 hg3 ho3 c3 c3' ho4 hB3
    go_wp2_with (
      go_at_call 22
      refine (cyc_any n (by omega) (by omega) hfin w2.heap.size _ hg4 hE4).mono ?_
      rintro e w5 ⟨ag, ng, cg, okb, rfl, hb5, hres⟩
      have hg5 := (hb5.block w2.heap.size (by omega)).trans hg4
      have e5 := gr_cell0 hg5
      have e5' := gr_cell1 hg5)
    have l5 := hb5.size
    have hB5 : Below W.heap.size W w5 := hB4.trans (hb5.mono (by omega))
    have hE5 := hE4.below' hb5
    have hX5 := hX4.below' hb5
    have hK5 := hK4.below' hb5
    have hne := neq28
    have hgd := guard28
    have hlw : W.heap.size ≤ w4.heap.size := hB4.size
    obtain ⟨a2', c2', hq, _, _, hcE⟩ := hE5.form
    simp only [Value.slice.injEq, true_and] at hq
    obtain ⟨rfl, rfl⟩ := hq
    clear hE4 hX4 hK4 hb5 hg4 hB4 hE5
    obtain ⟨bo, cb, hq, _, _, hcK⟩ := hK5.form
    simp only [Value.slice.injEq, true_and] at hq
    obtain ⟨rfl, rfl⟩ := hq
    rw [HPE.out, HFE.out] at hres
    go_loopw [101] (fun i wr => ∃ k m : Nat, k ≤ (frm (n : Int) xs).length ∧ i = .int .i64 k ∧ wr = w5.drewN m) (fun i _ => (frm (n : Int) xs).length - (intOf i).toNat)
    case atStart => exact ⟨0, 0, Nat.zero_le _, rfl, rfl⟩
    case round =>
      obtain ⟨k, m, hk, rfl, rfl⟩ := hrel
      by_cases hlt : k < (frm (n : Int) xs).length
      · as_aux_lemma =>
        obtain ⟨g, rfl, _, k0, k1⟩ := hcE k hlt
        obtain ⟨g', hg', _, k2, k3⟩ := hcK k hlt
        simp only [Option.some.injEq, Addr.mk.injEq, and_true] at hg'
        subst hg'
        have ik0 : (0 : Int) ≤ (k : Int) := by omega
        have ik1 : (k : Int) < ((frm (n : Int) xs).length : Int) := by omega
        generalize (frm (n : Int) xs)[k] = p at *
        clear hcE hcK hres
        go_wp2
        go_quiet (fail)
        go_wp2
        go_roundw
        case rel => exact ⟨k + 1, _, by omega, by go_num, rfl⟩
        case measure => simp [intOf]; omega
      · clear hcE hcK hK5 hne hgd e5 e5' hg5 HPE hfin hfl' lE lX
        obtain ⟨wz, hwz⟩ : ∃ wz, wz = w5.drewN m := ⟨_, rfl⟩
        have hXz : EsIn W.heap.size wz u6 xs := by rw [hwz]; exact hX5.drewN m
        have hBz : Below W.heap.size W wz := by rw [hwz]; exact below_drewN hB5 _
        have hrz : Hid (((peelN n xs n).length = n → ag = none ∧ ng = 0 ∧ cg = 0 ∧ okb = false) ∧
           ((peelN n xs n).length ≠ n → ∃ R : Nat, ag = some ⟨R, 0, none⟩ ∧ ng = (cycRes (predV (insAll xs) (peelN n xs n)) n (peelN n xs n)).length ∧ cg = ng ∧ okb = true ∧
             wz.ownsRow w4.heap.size 3 1 (.slice (some ⟨R, 0, none⟩) ng ng) ng ((rotM (cycRes (predV (insAll xs) (peelN n xs n)) n (peelN n xs n))).map (Value.int .i64)) ∧ 0 < ng)) := by
          rw [hwz]; exact hres
        rw [← hwz]
        clear hres hX5 hB5 hwz HFE
        obtain ⟨ax, cx, rfl, _, _, hcX⟩ := hXz.form
        clear hXz
        obtain ⟨N, hN, hNd, hNle⟩ : ∃ N : Nat, (n : Int) * (n : Int) = (N : Int) ∧ n * n = N ∧ N ≤ 65025 := ⟨n * n, by simp, rfl, Nat.mul_le_mul h1 h1⟩
        have HND := hide hNd
        clear hNd
        have lz := hBz.size
        go_wp2_with (
          at_make
          refine wpList_make_full _ rfl (.tmp 117) (.tmp 117) 63 rfl W.heap.size 4 i4 _ 1 Ybdv.underlying63 hi4 h40 h41 .i64 .i64 _ _ N rfl rfl rfl rfl ?_ ?_ ?_ ?_
          · rw [h42]; omega
          · unfold maxLen; omega
          · omega)
        intro wa hoa hGa
        have lA : wz.heap.size < wa.heap.size := (World.ownsRow.lt hoa _ rfl).2
        have hba := below_grow hGa
        have eza : (tab N fun i => Value.bool (adX (xs.take 0) (i / n) (i % n))) = (madeCells #[Value.bool false] N).toList := by
          rw [toList_madeCells_one, ← tab_const]
          simp [adX_nil]
        rw [← eza] at hoa
        clear hGa eza
        generalize hAd : wz.heap.size = A at *
        go_wp2
        go_loopg [121] xs.length (fun gk i wr => ∃ k : Nat, k ≤ xs.length ∧ gk = xs.length - k ∧ i = .int .i64 k ∧ wr.ownsRow W.heap.size 4 1 (.slice (some ⟨A, 0, none⟩) N N) N (tab N fun i => .bool (adX (xs.take k) (i / n) (i % n))) ∧ Below A wz wr ∧ A < wr.heap.size)
        case atStart => exact ⟨0, Nat.zero_le _, rfl, rfl, hoa, hba, lA⟩
        case round =>
          clear hoa hba lA
          obtain ⟨k, hk, rfl, rfl, hoA, hbA, lA⟩ := hrel
          rename World => wr
          by_cases hlt : k < xs.length
          · as_aux_lemma =>
            obtain ⟨g, rfl, hgl, q0, q1⟩ := hcX k hlt
            obtain ⟨a, b, hab, ha, hbn⟩ := in_range (hin xs[k] (List.getElem_mem hlt))
            obtain ⟨q, s, hq, hs, hsN, hqs, hs1, hs2⟩ := sq_idx ha hbn
            rw [HND.out] at hsN
            have HT : Hid (∀ i, adX (xs.take (k + 1)) (i / n) (i % n) = if i = s then true else adX (xs.take k) (i / n) (i % n)) := by
              intro i
              rw [List.take_succ_eq_append_getElem hlt, hab, adX_snoc]
              by_cases his : i = s
              · subst his; simp [hs1, hs2]
              · rw [if_neg his]
                have : (decide (i / n = a) && decide (i % n = b)) = false := by
                  rw [Bool.and_eq_false_iff, decide_eq_false_iff_not, decide_eq_false_iff_not]
                  by_cases h' : i / n = a
                  · exact .inr fun h'' => his (sq_inj (h'.trans hs1.symm) (h''.trans hs2.symm))
                  · exact .inl h'
                simp [this]
            rw [hab] at q0 q1
            have k0 : wr.cell? ⟨g, k * 2, none⟩ = some (.int .i64 a) := (hbA.cell (p := ⟨g, k * 2, none⟩) (show g < A by omega)).trans q0
            have k1 : wr.cell? ⟨g, k * 2 + 1, none⟩ = some (.int .i64 b) := (hbA.cell (p := ⟨g, k * 2 + 1, none⟩) (show g < A by omega)).trans q1
            have kf := tab_free hoA s
            have ks := tab_cell hoA s hsN
            have is : (s : Int) < (N : Int) := by omega
            clear q0 q1 hab hs1 hs2 hcX hin hrz
            go_wp2
            go_roundg (xs.length - (k + 1))
            case measure => omega
            case rel =>
              refine ⟨k + 1, by omega, rfl, by go_num, (tab_stored hoA s _ fun i hi => ?_).alloc _, (hbA.setCell (Nat.le_refl _) _).alloc (by simp; omega) _, by simp; omega⟩
              rw [HT.out i]; split <;> rfl
          · have hkl : k = xs.length := by omega
            rw [hkl, List.take_of_length_le (Nat.le_refl _)] at hoA
            have HIN := hide hin
            clear hcX hin hkl hk
            go_wp2_with (
              at_make
              refine wpList_make_full _ rfl (.tmp 135) (.tmp 135) 39 rfl W.heap.size 3 i3 _ 1 Ybdv.underlying39 hi3 h30 h31 .i64 .i64 _ _ n rfl rfl rfl rfl ?_ ?_ ?_ ?_
              · rw [h32]; omega
              · unfold maxLen; omega
              · omega)
            intro wd hod hGd
            have lD : wr.heap.size < wd.heap.size := (World.ownsRow.lt hod _ rfl).2
            have ezd : (tab n fun u => Value.int .i64 ((cntA (adX xs) 0 u : Nat) : Int)) = (madeCells #[Value.int .i64 0] n).toList := by
              rw [toList_madeCells_one, ← tab_const]
              simp [cntA_zero]
            have hS : AdSt W wz wd xs n N A wr.heap.size (fun u => ((cntA (adX xs) 0 u : Nat) : Int)) := ⟨hoA.kept hGd (.inr (by simp [Value.ownBlock])), by rw [ezd]; exact hod, hbA.grown hGd (by omega) (by simp), by omega, lD⟩
            have hAD : A < wr.heap.size := lA
            clear hod hGd ezd hoA hbA
            generalize wr.heap.size = D at *
            go_wp2
            go_loopg [19] n (fun gk t wr => ∃ u : Nat, u ≤ n ∧ gk = n - u ∧ t = .int .i64 u ∧ AdSt W wz wr xs n N A D (fun w => (cntA (adX xs) u w : Int)))
            case atStart => exact ⟨0, Nat.zero_le _, rfl, rfl, hS⟩
            case round =>
              clear hS lD lA
              obtain ⟨u, hu, rfl, rfl, hS⟩ := hrel
              rename World => wu
              by_cases hun : u < n
              · as_aux_lemma =>
                have iu : (u : Int) < (n : Int) := by omega
                go_wp2
                go_loopg [20] n (fun gk t wr => ∃ v : Nat, v ≤ n ∧ gk = n - v ∧ t = .int .i64 v ∧ AdSt W wz wr xs n N A D (fun w => (cntA (adX xs) u w : Int) + if w < v ∧ adX xs u w = true then 1 else 0))
                case atStart => exact ⟨0, Nat.zero_le _, rfl, rfl, hS.same (fun i _ => by simp)⟩
                case round =>
                  clear hS
                  obtain ⟨v, hv, rfl, rfl, hS⟩ := hrel
                  rename World => wv
                  by_cases hvn : v < n
                  · obtain ⟨q, s, hq, hs, hsN, hqs, hs1, hs2⟩ := sq_idx hun hvn
                    rw [HND.out] at hsN
                    have ka := hS.at hsN hs1 hs2
                    have is : (s : Int) < (N : Int) := by omega
                    have iv : (v : Int) < (n : Int) := by omega
                    clear hs1 hs2
                    cases had : adX xs u v
                    · rw [had] at ka
                      have HF : Hid (∀ i : Nat, (if i < v + 1 ∧ adX xs u i = true then (1 : Int) else 0) = if i < v ∧ adX xs u i = true then 1 else 0) := by
                        intro i
                        by_cases hiv : i = v
                        · subst hiv; simp [had]
                        · have : i < v + 1 ↔ i < v := by omega
                          simp [this]
                      clear had
                      go_wp2
                      go_roundg (n - (v + 1))
                      case measure => omega
                      case rel => exact ⟨v + 1, by omega, rfl, by go_num, hS.same fun i hi => by rw [HF.out i]⟩
                    · rw [had] at ka
                      have kd : wv.cell? ⟨D, v, none⟩ = some (.int .i64 (cntA (adX xs) u v : Int)) := by simpa using tab_cell hS.deg v hvn
                      have kf := tab_free hS.deg v
                      have hcl := cntA_le (adX xs) u v
                      have HF : Hid (∀ i : Nat, ((cntA (adX xs) u i : Int) + if i < v + 1 ∧ adX xs u i = true then (1 : Int) else 0) = if i = v then (cntA (adX xs) u v : Int) + 1 else (cntA (adX xs) u i : Int) + if i < v ∧ adX xs u i = true then 1 else 0) := by
                        intro i
                        by_cases hiv : i = v
                        · subst hiv; simp [had]
                        · have : i < v + 1 ↔ i < v := by omega
                          simp [this, hiv]
                      generalize cntA (adX xs) u v = c at *
                      clear had
                      go_wp2
                      go_roundg (n - (v + 1))
                      case measure => omega
                      case rel => exact ⟨v + 1, by omega, rfl, by go_num, hS.setDeg hAD v _ fun i hi => by rw [HF.out i]⟩
                  · have hvn' : v = n := by omega
                    go_wp2
                    go_roundg (n - (u + 1))
                    case measure => omega
                    case rel =>
                      refine ⟨u + 1, by omega, rfl, by go_num, hS.same fun i hi => ?_⟩
                      show ((cntA (adX xs) (u + 1) i : Nat) : Int) = _
                      rw [cntA_succ]
                      have : i < v := by omega
                      by_cases hh : adX xs u i = true
                      · simp [hh, this]
                      · simp [hh]
              · have hun' : u = n := by omega
                have hS2 : AdSt W wz wu xs n N A D (fun w => (degA n (adX xs) (peelN n xs 0) w : Int)) := by
                  refine hS.same fun i hi => ?_
                  show ((degA n (adX xs) [] i : Nat) : Int) = _
                  rw [cntA_deg, hun']
                clear hS hun' hu
                have lA2 := hS2.szA
                have lD2 := hS2.szD
                go_wp2_with (
                  at_make
                  refine wpList_make_full _ rfl (.tmp 161) (.tmp 161) 63 rfl W.heap.size 4 i4 _ 1 Ybdv.underlying63 hi4 h40 h41 .i64 .i64 _ _ n rfl rfl rfl rfl ?_ ?_ ?_ ?_
                  · rw [h42]; omega
                  · unfold maxLen; omega
                  · omega)
                intro wt hot hGt
                have lT : wu.heap.size < wt.heap.size := (World.ownsRow.lt hot _ rfl).2
                have ezt : (tab n fun u => Value.bool (inO (peelN n xs 0) (u : Int))) = (madeCells #[Value.bool false] n).toList := by
                  rw [toList_madeCells_one, ← tab_const]
                  simp [peelN, inO_nil]
                rw [← ezt] at hot
                have hR : RemSt W wz wt xs n N A D wu.heap.size (peelN n xs 0) (fun w => (degA n (adX xs) (peelN n xs 0) w : Int)) := ⟨hS2.grow hGt, hot, lT⟩
                have hDT : D < wu.heap.size := lD2
                clear hot hGt ezt hS2 lD2 lA2
                generalize wu.heap.size = T at *
                have HFS : Hid (∀ (ord : List Int) (v : Nat), v < n → freeV xs ord (v : Int) = (!inO ord (v : Int) && decide (degA n (adX xs) ord v = 0))) := by
                  intro ord v hv
                  exact free_same (fun u v _ _ => adX_iff xs u v) (fun e he => by have := HIN.out e he; simp [inR] at this; omega) ord v hv
                go_upto_block 10 with fail
                go_cut [22, 23, 24, 25, 26] (fun t22 t23 t24 t25 t26 wc => t22 = .int .i64 ((peelN n xs n).length : Int) ∧ ∃ F, RemSt W wz wc xs n N A D T (peelN n xs n) F)
                case first =>
                  as_aux_lemma =>
                  clear hrz HIN
                  go_wp2_with fail
                  go_loopg [22, 23] n (fun gk t22 t23 wr => ∃ k : Nat, k ≤ n ∧ gk = n - k ∧ t22 = .int .i64 k ∧ t23 = .int .i64 k ∧ Hid ((peelN n xs k).length = k) ∧ RemSt W wz wr xs n N A D T (peelN n xs k) (fun w => (degA n (adX xs) (peelN n xs k) w : Int)))
                  case atStart => exact ⟨0, Nat.zero_le _, rfl, rfl, rfl, show _ = _ from rfl, hR⟩
                  case round =>
                    clear hR
                    obtain ⟨k, hk, rfl, rfl, rfl, HK, hS⟩ := hrel
                    rename World => wq
                    by_cases hkn : k < n
                    · go_wp2
                      go_loopg [24, 25] n (fun gk t24 t25 wr => ∃ v : Nat, v ≤ n ∧ gk = n - v ∧ t24 = .int .i64 (-1) ∧ t25 = .int .i64 v ∧ wr = wq ∧ Hid (scanV (fun v => freeV xs (peelN n xs k) (v : Int)) (n - v) v = nextV n xs (peelN n xs k)))
                      case atStart => exact ⟨0, Nat.zero_le _, rfl, rfl, rfl, rfl, show _ = _ from rfl⟩
                      case round =>
                        obtain ⟨v, hv, rfl, rfl, rfl, hww, HV⟩ := hrel
                        subst hww
                        have iv0 : (0 : Int) ≤ (v : Int) := by omega
                        have hways : (v < n ∧ ((inO (peelN n xs k) (v : Int) = true ∧ freeV xs (peelN n xs k) (v : Int) = false) ∨ (inO (peelN n xs k) (v : Int) = false ∧ (((degA n (adX xs) (peelN n xs k) v : Nat) : Int) == 0) = false ∧ freeV xs (peelN n xs k) (v : Int) = false))) ∨
                            (Hid (nextV n xs (peelN n xs k) = v) ∧ ((v < n ∧ inO (peelN n xs k) (v : Int) = false ∧ (((degA n (adX xs) (peelN n xs k) v : Nat) : Int) == 0) = true) ∨ v = n)) := by
                          by_cases hvn : v < n
                          · have hfs := HFS.out (peelN n xs k) v hvn
                            cases h1 : inO (peelN n xs k) (v : Int)
                            · by_cases h2 : degA n (adX xs) (peelN n xs k) v = 0
                              · refine .inr ⟨?_, .inl ⟨hvn, rfl, by simp [h2]⟩⟩
                                show _ = _
                                rw [← HV.out]; exact scanV_yes _ _ _ hvn (by rw [hfs]; simp [h1, h2])
                              · exact .inl ⟨hvn, .inr ⟨rfl, by rw [beq_eq_false_iff_ne]; omega, by rw [hfs]; simp [h2]⟩⟩
                            · exact .inl ⟨hvn, .inl ⟨rfl, by rw [hfs]; simp [h1]⟩⟩
                          · have hvn' : v = n := by omega
                            refine .inr ⟨?_, .inr hvn'⟩
                            show _ = _
                            rw [← HV.out, hvn']; exact scanV_end _ _
                        rcases hways with ⟨hvn, hway⟩ | ⟨HN, hway⟩
                        · have t1 := tab_cell hS.rem v hvn
                          have t2 := tab_cell hS.ads.deg v hvn
                          have ivn : (v : Int) < (n : Int) := by omega
                          rcases hway with ⟨hw1, hw2⟩ | ⟨hw1, hw3, hw2⟩
                          all_goals
                            rw [hw1] at t1
                            have HV' : Hid (scanV (fun v => freeV xs (peelN n xs k) (v : Int)) (n - (v + 1)) (v + 1) = nextV n xs (peelN n xs k)) := by
                              show _ = _
                              rw [← HV.out]; exact (scanV_no _ _ _ hvn hw2).symm
                            clear HV hw2
                            go_wp2
                            go_roundg (n - (v + 1))
                            case measure => omega
                            case rel => exact ⟨v + 1, by omega, rfl, rfl, by go_num, rfl, HV'⟩
                        · rcases hway with ⟨hvn, hw1, hw3⟩ | hvn
                          · have t1 := tab_cell hS.rem v hvn
                            have t2 := tab_cell hS.ads.deg v hvn
                            have t3 := tab_free hS.rem v
                            have ivn : (v : Int) < (n : Int) := by omega
                            have HP1 : Hid (peelN n xs (k + 1) = peelN n xs k ++ [(v : Int)]) := by
                              show _ = _
                              rw [peelN_succ n xs k (by rw [HN.out]; exact hvn), HN.out]
                            have hS5 := hS.taken hAD hDT v
                            rw [hw1] at t1
                            clear HV HN
                            go_wp2
                            go_loopg [26] n (fun gk t wr => ∃ j : Nat, j ≤ n ∧ gk = n - j ∧ t = .int .i64 j ∧ RemSt W wz wr xs n N A D T (peelN n xs k ++ [(v : Int)]) (fun w => (degA n (adX xs) (peelN n xs k) w : Int) - if w < j ∧ adX xs v w = true then 1 else 0))
                            case atStart => exact ⟨0, Nat.zero_le _, rfl, rfl, hS5.same (fun i _ => by simp)⟩
                            case round =>
                              clear hS hS5 t1 t2 t3
                              obtain ⟨j, hj, rfl, rfl, hS⟩ := hrel
                              rename World => wj
                              by_cases hjn : j < n
                              · obtain ⟨q, s, hq, hs, hsN, hqs, hs1, hs2⟩ := sq_idx hvn hjn
                                rw [HND.out] at hsN
                                have ka := hS.ads.at hsN hs1 hs2
                                have is : (s : Int) < (N : Int) := by omega
                                have ij : (j : Int) < (n : Int) := by omega
                                clear hs1 hs2
                                cases had : adX xs v j
                                · rw [had] at ka
                                  have HF : Hid (∀ i : Nat, (if i < j + 1 ∧ adX xs v i = true then (1 : Int) else 0) = if i < j ∧ adX xs v i = true then 1 else 0) := by
                                    intro i
                                    by_cases hiv : i = j
                                    · subst hiv; simp [had]
                                    · have : i < j + 1 ↔ i < j := by omega
                                      simp [this]
                                  clear had
                                  go_wp2
                                  go_roundg (n - (j + 1))
                                  case measure => omega
                                  case rel => exact ⟨j + 1, by omega, rfl, by go_num, hS.same fun i hi => by rw [HF.out i]⟩
                                · rw [had] at ka
                                  have kd : wj.cell? ⟨D, j, none⟩ = some (.int .i64 (degA n (adX xs) (peelN n xs k) j : Int)) := by simpa using tab_cell hS.ads.deg j hjn
                                  have kf := tab_free hS.ads.deg j
                                  have hcl := degA_le n (adX xs) (peelN n xs k) j
                                  have HF : Hid (∀ i : Nat, ((degA n (adX xs) (peelN n xs k) i : Int) - if i < j + 1 ∧ adX xs v i = true then (1 : Int) else 0) = if i = j then (degA n (adX xs) (peelN n xs k) j : Int) - 1 else (degA n (adX xs) (peelN n xs k) i : Int) - if i < j ∧ adX xs v i = true then 1 else 0) := by
                                    intro i
                                    by_cases hiv : i = j
                                    · subst hiv; simp [had]
                                    · have : i < j + 1 ↔ i < j := by omega
                                      simp [this, hiv]
                                  generalize degA n (adX xs) (peelN n xs k) j = c at *
                                  clear had
                                  go_wp2
                                  go_roundg (n - (j + 1))
                                  case measure => omega
                                  case rel => exact ⟨j + 1, by omega, rfl, by go_num, hS.setDeg hAD hDT j _ fun i hi => by rw [HF.out i]⟩
                              · go_wp2
                                go_roundg (n - (k + 1))
                                case measure => omega
                                case rel =>
                                  refine ⟨k + 1, by omega, rfl, by go_num, by go_num, ?_, ?_⟩
                                  · show _ = _
                                    rw [HP1.out, List.length_append, HK.out]; rfl
                                  · rw [HP1.out]
                                    refine hS.same fun i hi => ?_
                                    have := degA_snoc (ad := adX xs) hvn hw1 i
                                    have hij : i < j := by omega
                                    by_cases hh : adX xs v i = true
                                    · simp [hh, hij] at this ⊢; omega
                                    · simp [hh] at this ⊢; omega
                          · have hd : decide ((v : Int) < (n : Int)) = false := by rw [decide_eq_false_iff_not]; omega
                            have hd' : ¬ v < n := by omega
                            have HE : Hid (peelN n xs n = peelN n xs k) := by
                              show _ = _
                              have := peelN_stop n xs k (by rw [HN.out]; omega) (n - k)
                              rwa [show k + (n - k) = n by omega] at this
                            clear HV HN hvn
                            go_wp2
                            go_meet
                            case rel => exact ⟨by rw [HE.out, HK.out], _, by rw [HE.out]; exact hS⟩
                    · have hkn' : k = n := by omega
                      go_wp2
                      go_meet
                      case rel =>
                        subst hkn'
                        exact ⟨by rw [HK.out], _, hS⟩
                case rest =>
                  as_aux_lemma =>
                  clear hR
                  obtain ⟨h22, F, hR⟩ := hcut
                  subst h22
                  have hBc : Below W.heap.size W wc := hBz.trans (hR.ads.bel.mono lz)
                  have hnil := fun (w : World) (a : Option Addr) (n' c' : Nat) => Lib.run_eql_slice_nil (P := Ybdv.prog) w 39 3 a n' c' 0 0 Ybdv.underlying39
                  clear HFS hAD hDT
                  have lTc := hR.szT
                  have lAc := hR.ads.szA
                  by_cases hL : (peelN n xs n).length = n
                  · obtain ⟨rfl, rfl, rfl, rfl⟩ := hrz.out.1 hL
                    have heq : (((peelN n xs n).length : Int) == (n : Int)) = true := by simp [hL]
                    clear hrz hL
                    go_wp2
                    go_ret
                    exact ⟨rfl, hBc⟩
                  · obtain ⟨R, rfl, hng, rfl, rfl, hoR, hng0⟩ := hrz.out.2 hL
                    have heq : (((peelN n xs n).length : Int) == (n : Int)) = false := by rw [beq_eq_false_iff_ne]; omega
                    have hleft := leftV_lt (peel_count n xs n) hL
                    have zR : R < A := by rw [← hAd]; exact (World.ownsRow.lt hoR _ rfl).2
                    have HNX : Hid (∀ v : Nat, predV (insAll xs) (peelN n xs n) (v : Int) = if scanV (fun u => !inO (peelN n xs n) (u : Int) && adX xs u v) n 0 < n then (scanV (fun u => !inO (peelN n xs n) (u : Int) && adX xs u v) n 0 : Int) else (v : Int)) := by
                      intro v
                      rw [pred_scan (insAll_sorted xs) (n := n) (fun e he => by rw [mem_insAll] at he; have := HIN.out e he; simp [inR] at this; omega)]
                      unfold predS
                      have : (fun u : Nat => !inO (peelN n xs n) (u : Int) && decide (((u : Int), (v : Int)) ∈ insAll xs)) = (fun u : Nat => !inO (peelN n xs n) (u : Int) && adX xs u v) := by
                        funext u
                        congr 1
                        unfold adX
                        rw [decide_eq_decide]; exact mem_insAll xs _
                      rw [this]
                    generalize hfin : cycRes (predV (insAll xs) (peelN n xs n)) n (peelN n xs n) = CY at *
                    have HFIN := hide hfin
                    clear hfin
                    generalize predV (insAll xs) (peelN n xs n) = nx at *
                    generalize peelN n xs n = ord at *
                    have HNG := hide hng
                    have HOR := hide hoR
                    clear hng hoR hrz hL HIN hnil
                    go_wp2
                    go_loop [27] (fun t => ∃ v : Nat, v ≤ leftV n ord ∧ t = .int .i64 v ∧ Hid (scanV (fun u => !inO ord (u : Int)) (n - v) v = leftV n ord)) (fun t => n - (intOf t).toNat)
                    case atStart => exact ⟨0, Nat.zero_le _, rfl, show _ = _ from rfl⟩
                    case round =>
                      obtain ⟨v, hv, rfl, HV⟩ := hrel
                      have hvn : v < n := by omega
                      have t1 := tab_cell hR.rem v hvn
                      have ivn : (v : Int) < (n : Int) := by omega
                      have iv0 : (0 : Int) ≤ (v : Int) := by omega
                      cases hio : inO ord (v : Int)
                      · have HLV : Hid (leftV n ord = v) := by show _ = _; rw [← HV.out]; exact scanV_yes _ _ _ hvn (by simp [hio])
                        rw [hio] at t1
                        go_wp2_with (
                          at_make
                          refine wpList_make_full _ rfl (.tmp 229) (.tmp 229) 39 rfl W.heap.size 3 i3 _ 1 Ybdv.underlying39 hi3 h30 h31 .i64 .i64 _ _ n rfl rfl rfl rfl ?_ ?_ ?_ ?_
                          · rw [h32]; omega
                          · unfold maxLen; omega
                          · omega)
                        intro w2' ho2 hG2
                        have hb2 := below_grow hG2
                        have lS : wc.heap.size < w2'.heap.size := (World.ownsRow.lt ho2 _ rfl).2
                        have ezero : (tab n fun i => Value.int .i64 (if i < 0 then -1 else 0)) = (madeCells #[Value.int .i64 0] n).toList := by
                          rw [toList_madeCells_one, ← tab_const]
                          simp
                        rw [← ezero] at ho2
                        clear hG2 ezero HV t1 hio ivn iv0
                        go_wp2
                        go_loopg [233] n (fun gk i wr => ∃ k : Nat, k ≤ n ∧ gk = n - k ∧ i = .int .i64 k ∧ wr.ownsRow W.heap.size 3 1 (.slice (some ⟨wc.heap.size, 0, none⟩) n n) n (tab n fun i => .int .i64 (if i < k then -1 else 0)) ∧ Below wc.heap.size wc wr)
                        case atStart => exact ⟨0, Nat.zero_le _, by omega, rfl, ho2, hb2⟩
                        case round =>
                          clear ho2 hb2
                          obtain ⟨k, hk, rfl, rfl, ho, hb3⟩ := hrel
                          rename World => wq
                          have lq : wc.heap.size < wq.heap.size := (World.ownsRow.lt ho _ rfl).2
                          by_cases hkn : k < n
                          · have td := tab_cell ho k hkn
                            have fd := tab_free ho k
                            have ik1 : (k : Int) < (n : Int) := by omega
                            have ik0 : (0 : Int) ≤ (k : Int) := by omega
                            go_wp2
                            go_roundg (n - (k + 1))
                            case measure => omega
                            case rel =>
                              refine ⟨k + 1, by omega, rfl, by go_num, tab_stored ho k _ fun i hi => ?_, hb3.setCell (Nat.le_refl _) _⟩
                              by_cases hik : i = k
                              · subst hik; simp
                              · rw [if_neg hik]
                                by_cases h' : i < k
                                · rw [if_pos h', if_pos (by omega)]
                                · rw [if_neg h', if_neg (by omega)]
                          · have hkn' : k = n := by omega
                            go_wp2_with (
                              at_make
                              refine wpList_make_own _ rfl (.const (.int .i64 0)) (.tmp 240) 39 rfl W.heap.size 3 i3 _ 1 Ybdv.underlying39 hi3 h30 h31 .i64 .i64 _ n rfl rfl rfl ?_ ?_ ?_ ?_
                              · rw [h32]; omega
                              · unfold maxLen; omega
                              · omega)
                            intro w4' ho4 hG4
                            have lP : wq.heap.size < w4'.heap.size := (World.ownsRow.lt ho4 _ rfl).2
                            have hPS : PathSt W wc w4' n wc.heap.size wq.heap.size [] := by
                              refine ⟨ho4, ?_, hb3.trans ((below_grow hG4).mono (by omega)), by omega, lP⟩
                              have e2 : (tab n fun u => Value.int .i64 (atP [] (u : Int))) = tab n fun i => Value.int .i64 (if i < k then -1 else 0) := by
                                apply tab_congr
                                intro i hi
                                rw [atP_neg (inO_nil _), if_pos (by omega)]
                              rw [e2]; exact ho.kept hG4 (.inr (by simp [Value.ownBlock]))
                            have lWc := hBc.size
                            clear ho ho4 hG4 hb3 hk hkn hkn'
                            generalize hPb : wq.heap.size = P at *
                            generalize hSb : wc.heap.size = S at *
                            clear hPb
                            have hSP : S < P := by omega
                            go_wp2
                            go_loopg [27, 30] n (fun gk t27 t30 wr => ∃ (path : List Int) (v : Nat), v < n ∧ t27 = .int .i64 v ∧ t30 = .slice (some ⟨P, 0, none⟩) path.length n ∧ gk = freeC n path ∧ path.length + freeC n path = n ∧ PathSt W wc wr n S P path ∧
                                Hid (bwF nx (freeC n path + 1) path (v : Int) = bwF nx (n + 1) [] (leftV n ord : Int)))
                            case atStart =>
                              refine ⟨[], v, hvn, rfl, rfl, (freeC_nil n).symm, by simp [freeC_nil], hPS, ?_⟩
                              show _ = _
                              rw [freeC_nil, HLV.out]
                            case round =>
                              clear HLV hPS hvn hv
                              obtain ⟨path, v, hvn, rfl, rfl, rfl, hct, hPS, HBW⟩ := hrel
                              rename World => wp
                              have t7 := tab_cell hPS.sen v hvn
                              have iv1 : (v : Int) < (n : Int) := by omega
                              have iv0 : (0 : Int) ≤ (v : Int) := by omega
                              cases hio : inO path (v : Int)
                              · as_aux_lemma =>
                                have f7 := tab_free hPS.sen v
                                have hOs := ownsRow_setCell_other hPS.pth (a := ⟨S, v, none⟩) (by simp [Value.ownBlock]; omega) (.int .i64 (path.length : Int))
                                have hfs := freeC_snoc hvn hio
                                rw [atP_neg hio] at t7
                                go_wp2_with (
                                  at_builtin
                                  refine wpList_append_fits _ rfl (.tmp 252) (.tmp 254) 39 rfl W.heap.size 3 i3 1 Ybdv.underlying39 hi3 h31 P path.length n _ rfl (hOs.alloc _) ⟨wp.heap.size, 0, none⟩ 1 1 [.int .i64 (v : Int)] rfl rfl ?_ ?_ ?_ ?_
                                  · exact news_one (by simp) _ _
                                  · exact ints_oneCell .i64 [(v : Int)]
                                  · omega)
                                intro w5' ho5 hG5
                                have hPS5 := hPS.step hSP v hio _ hG5 ho5
                                have HB2 : Hid (bwF nx (freeC n (path ++ [(v : Int)]) + 1) (path ++ [(v : Int)]) (nx (v : Int)) = bwF nx (n + 1) [] (leftV n ord : Int)) := by
                                  show _ = _
                                  rw [← HBW.out]; exact (bwF_go _ hvn hio).symm
                                clear hPS HBW t7 f7 hOs ho5 hG5
                                go_wp2
                                go_loopg [27, 31] n (fun gk t27 t31 wr => ∃ u : Nat, u ≤ n ∧ gk = n - u ∧ t27 = .int .i64 (v : Int) ∧ t31 = .int .i64 (u : Int) ∧ wr = w5' ∧
                                  Hid (scanV (fun u => !inO ord (u : Int) && adX xs u v) (n - u) u = scanV (fun u => !inO ord (u : Int) && adX xs u v) n 0))
                                case atStart => exact ⟨0, Nat.zero_le _, rfl, rfl, rfl, rfl, show _ = _ from rfl⟩
                                case round =>
                                  obtain ⟨u, hu, rfl, rfl, rfl, hww, HJ⟩ := hrel
                                  subst hww
                                  by_cases hun : u < n
                                  · obtain ⟨q, s, hq, hs, hsN, hqs, hs1, hs2⟩ := sq_idx hun hvn
                                    rw [HND.out] at hsN
                                    rename World => w6
                                    have ka : w6.cell? ⟨A, s, none⟩ = some (.bool (adX xs u v)) := (hPS5.bel.cell (p := ⟨A, s, none⟩) lAc).trans (hR.ads.at hsN hs1 hs2)
                                    have kt : w6.cell? ⟨T, u, none⟩ = some (.bool (inO ord (u : Int))) := (hPS5.bel.cell (p := ⟨T, u, none⟩) lTc).trans (tab_cell hR.rem u hun)
                                    have is : (s : Int) < (N : Int) := by omega
                                    have iu1 : (u : Int) < (n : Int) := by omega
                                    have iu0 : (0 : Int) ≤ (u : Int) := by omega
                                    clear hs1 hs2
                                    have HNO : Hid ((!inO ord (u : Int) && adX xs u v) = false → scanV (fun u => !inO ord (u : Int) && adX xs u v) (n - (u + 1)) (u + 1) = scanV (fun u => !inO ord (u : Int) && adX xs u v) n 0) := by
                                      intro h'
                                      rw [← HJ.out]; exact (scanV_no (fun u => !inO ord (u : Int) && adX xs u v) _ _ hun h').symm
                                    cases hia : inO ord (u : Int)
                                    · rw [hia] at kt HNO
                                      cases had : adX xs u v
                                      · rw [had] at ka HNO
                                        have HJ2 := hide (HNO.out rfl)
                                        clear had hia
                                        go_wp2
                                        go_roundg (n - (u + 1))
                                        case measure => omega
                                        case rel => exact ⟨u + 1, by omega, rfl, rfl, by go_num, rfl, HJ2⟩
                                      · rw [had] at ka
                                        have HB3 : Hid (bwF nx (freeC n (path ++ [(v : Int)]) + 1) (path ++ [(v : Int)]) (u : Int) = bwF nx (n + 1) [] (leftV n ord : Int)) := by
                                          show _ = _
                                          have hsc : scanV (fun u => !inO ord (u : Int) && adX xs u v) n 0 = u := by
                                            rw [← HJ.out]; exact scanV_yes (fun u => !inO ord (u : Int) && adX xs u v) _ _ hun (by simp [hia, had])
                                          rw [← HB2.out, HNX.out v, hsc, if_pos hun]
                                        clear had hia
                                        go_wp2
                                        go_roundg (freeC n (path ++ [(v : Int)]))
                                        case measure => omega
                                        case rel => exact ⟨path ++ [(v : Int)], u, hun, rfl, by simp, rfl, by simp; omega, hPS5, HB3⟩
                                    · rw [hia] at kt HNO
                                      have HJ2 := hide (HNO.out (by simp))
                                      clear hia
                                      go_wp2
                                      go_roundg (n - (u + 1))
                                      case measure => omega
                                      case rel => exact ⟨u + 1, by omega, rfl, rfl, by go_num, rfl, HJ2⟩
                                  · have HB3 : Hid (bwF nx (freeC n (path ++ [(v : Int)]) + 1) (path ++ [(v : Int)]) (v : Int) = bwF nx (n + 1) [] (leftV n ord : Int)) := by
                                      show _ = _
                                      have hsc : scanV (fun u => !inO ord (u : Int) && adX xs u v) n 0 = n := by
                                        rw [← HJ.out, show u = n by omega]; exact scanV_end _ _
                                      rw [← HB2.out, HNX.out v, hsc, if_neg (Nat.lt_irrefl n)]
                                    go_wp2
                                    go_roundg (freeC n (path ++ [(v : Int)]))
                                    case measure => omega
                                    case rel => exact ⟨path ++ [(v : Int)], v, hvn, rfl, by simp, rfl, by simp; omega, hPS5, HB3⟩
                              · as_aux_lemma =>
                                obtain ⟨hat, hsl⟩ := atP_pos hio
                                rw [hat] at t7
                                have HCY : Hid (CY = (path.drop (path.idxOf (v : Int))).reverse) := by
                                  show _ = _
                                  rw [← HFIN.out]
                                  unfold cycRes
                                  rw [← HBW.out, bwF_stop _ _ _ _ hio]
                                  rfl
                                clear HFIN HBW hio hat
                                generalize path.idxOf (v : Int) = s at *
                                have is0 : ¬ (s : Int) < 0 := by omega
                                have is0' : decide ((s : Int) < 0) = false := by rw [decide_eq_false_iff_not]; omega
                                have szS := hPS.szS
                                have szP := hPS.szP
                                go_wp2_with (
                                  at_make
                                  refine wpList_make_own _ rfl (.const (.int .i64 0)) (.tmp 278) 39 rfl W.heap.size 3 i3 _ 1 Ybdv.underlying39 hi3 h30 h31 .i64 .i64 _ path.length rfl rfl rfl ?_ ?_ ?_ ?_
                                  · rw [h32]; omega
                                  · unfold maxLen; omega
                                  · omega)
                                intro w7 ho7 hG7
                                have lQ : wp.heap.size < w7.heap.size := (World.ownsRow.lt ho7 _ rfl).2
                                have b7 := below_grow hG7
                                have s7 : w7.cell? ⟨S, v, none⟩ = some (.int .i64 (s : Int)) := (b7.cell (p := ⟨S, v, none⟩) szS).trans t7
                                have p7 : ∀ i (hi : i < path.length), w7.cell? ⟨P, i, none⟩ = some (.int .i64 path[i]) := fun i hi => (b7.cell (p := ⟨P, i, none⟩) szP).trans (ints_cell hPS.pth i hi)
                                have r7 : ∀ i (hi : i < (rotM CY).length), w7.cell? ⟨R, i, none⟩ = some (.int .i64 (rotM CY)[i]) := fun i hi =>
                                  (b7.cell (p := ⟨R, i, none⟩) (show R < wp.heap.size by omega)).trans ((hPS.bel.cell (p := ⟨R, i, none⟩) (show R < S by omega)).trans ((hR.ads.bel.cell (p := ⟨R, i, none⟩) zR).trans (ints_cell HOR.out i hi)))
                                have hB7 : Below W.heap.size W w7 := (hBc.trans (hPS.bel.mono lWc)).trans (b7.mono (by omega))
                                have HP7 := hide p7
                                have HR7 := hide r7
                                clear hG7 b7 p7 r7 t7 hPS
                                generalize hQ : wp.heap.size = Q at *
                                clear hQ
                                go_wp2
                                go_loopg [32, 33] (path.length - s) (fun gk t32 t33 wr => ∃ (j : Nat) (x : Int), s ≤ j ∧ j ≤ path.length ∧ gk = j - s ∧ x = (j : Int) - 1 ∧ t33 = .int .i64 x ∧ t32 = .slice (some ⟨Q, 0, none⟩) ((path.drop j).reverse).length path.length ∧
                                  wr.ownsRow W.heap.size 3 1 (.slice (some ⟨Q, 0, none⟩) ((path.drop j).reverse).length path.length) ((path.drop j).reverse).length (((path.drop j).reverse).map (Value.int .i64)) ∧ Below Q w7 wr)
                                case atStart => exact ⟨path.length, _, by omega, Nat.le_refl _, rfl, rfl, by go_num, by simp, by simpa using ho7, Below.refl _ _⟩
                                case round =>
                                  obtain ⟨j, x, hsj, hj, rfl, hx, rfl, rfl, ho, hB⟩ := hrel
                                  rename World => w8
                                  have s8 : w8.cell? ⟨S, v, none⟩ = some (.int .i64 (s : Int)) := (hB.cell (p := ⟨S, v, none⟩) (show S < Q by omega)).trans s7
                                  by_cases hjs : s < j
                                  · obtain ⟨i, rfl⟩ : ∃ i, j = i + 1 := ⟨j - 1, by omega⟩
                                    have hxi : x = (i : Int) := by omega
                                    clear hx
                                    subst hxi
                                    have hil : i < path.length := by omega
                                    have p8 : w8.cell? ⟨P, i, none⟩ = some (.int .i64 path[i]) := (hB.cell (p := ⟨P, i, none⟩) (show P < Q by omega)).trans (HP7.out i hil)
                                    have HD := hide (drop_rev hil)
                                    have ii : (i : Int) < (path.length : Int) := by omega
                                    have ii0 : (0 : Int) ≤ (i : Int) := by omega
                                    have iis : (s : Int) ≤ (i : Int) := by omega
                                    have hcl : ((path.drop (i + 1)).reverse).length + 1 ≤ path.length := by simp; omega
                                    have lQ8 : Q < w8.heap.size := (World.ownsRow.lt ho _ rfl).2
                                    generalize path[i] = y at *
                                    generalize (path.drop (i + 1)).reverse = c at *
                                    go_wp2_with (
                                      at_builtin
                                      refine wpList_append_fits _ rfl (.tmp 291) (.tmp 296) 39 rfl W.heap.size 3 i3 1 Ybdv.underlying39 hi3 h31 Q c.length path.length _ rfl (ho.alloc _) ⟨w8.heap.size, 0, none⟩ 1 1 [.int .i64 y] rfl rfl ?_ ?_ ?_ ?_
                                      · exact news_one (by simp) _ _
                                      · exact ints_oneCell .i64 [y]
                                      · omega)
                                    intro w9 ho9 hG9
                                    go_wp2
                                    go_roundg (i - s)
                                    case measure => omega
                                    case rel => exact ⟨i, _, by omega, by omega, rfl, rfl, by go_num, by rw [HD.out]; simp, by rw [HD.out]; simpa using ho9, (hB.alloc (by omega) _).grown hG9 (by simp; omega) (by simp)⟩
                                  · obtain rfl : s = j := by omega
                                    have ixs : ¬ (s : Int) ≤ x := by omega
                                    have ixs' : decide ((s : Int) ≤ x) = false := by rw [decide_eq_false_iff_not]; exact ixs
                                    have h0c : 0 < ((path.drop s).reverse).length := by simp; omega
                                    have hcl : ((path.drop s).reverse).length ≤ path.length := by simp
                                    have lQ8 : Q < w8.heap.size := (World.ownsRow.lt ho _ rfl).2
                                    have hB8 : Below W.heap.size W w8 := hB7.trans (hB.mono (by omega))
                                    have hngc : cg = ((path.drop s).reverse).length := by rw [HNG.out, HCY.out]
                                    have HR8 := HR7.out
                                    rw [HCY.out] at HR8
                                    generalize (path.drop s).reverse = c at *
                                    have hq8 : ∀ k, k < c.length → w8.cell? ⟨Q, k, none⟩ = some (.int .i64 (c.getD k 0)) := fun k hk => by
                                      rw [getD_eq hk]; exact ints_cell ho k hk
                                    have hr8 : ∀ k, k < c.length → w8.cell? ⟨R, k, none⟩ = some (.int .i64 (c.getD ((minI c c.length + k) % c.length) 0)) := fun k hk => by
                                      have hjl : (minI c c.length + k) % c.length < c.length := Nat.mod_lt _ h0c
                                      have hkr : k < (rotM c).length := by rw [rotM_length]; exact hk
                                      rw [(hB.cell (p := ⟨R, k, none⟩) (show R < Q by omega)).trans (HR8 k hkr), getD_eq hjl]
                                      have h1' := rotM_get hk
                                      rw [List.getElem?_eq_getElem hkr, List.getElem?_eq_getElem hjl] at h1'
                                      rw [Option.some.inj h1']
                                    have HQ := hide hq8
                                    have HRR := hide hr8
                                    have hml : ∀ k, k < c.length → minI c k < c.length := fun k hk => by have := minI_le c k; omega
                                    have hmL : minI c c.length < c.length := minI_lt h0c _ (Nat.le_refl _)
                                    clear hq8 hr8 HR8 HR7 HP7 HCY HNG ho HOR HNX hng0
                                    subst hngc
                                    generalize hLd : c.length = L at *
                                    have hLn : ¬ L = 0 := by omega
                                    have hL0 : ((L : Int) == 0) = false := by rw [beq_eq_false_iff_ne]; omega
                                    have hLne : ((L : Int) != (L : Int)) = false := by simp
                                    clear hLd
                                    go_wp2
                                    go_loopg [35, 36] L (fun gk t35 t36 wr => ∃ k m : Nat, k ≤ L ∧ gk = L - k ∧ t36 = .int .i64 k ∧ t35 = .int .i64 (minI c k) ∧ wr = w8.drewN m)
                                    case atStart => exact ⟨0, 0, Nat.zero_le _, rfl, rfl, rfl, rfl⟩
                                    case round =>
                                      obtain ⟨k, m, hk, rfl, rfl, rfl, hww⟩ := hrel
                                      subst hww
                                      by_cases hlt : k < L
                                      · have k0 := HQ.out k hlt
                                        have hmk := hml k hlt
                                        have k1 := HQ.out (minI c k) hmk
                                        have HS : Hid (minI c (k + 1) = if c.getD k 0 < c.getD (minI c k) 0 then k else minI c k) := rfl
                                        have ik1 : (k : Int) < (L : Int) := by omega
                                        have ik0 : (0 : Int) ≤ (k : Int) := by omega
                                        have im1 : ((minI c k : Nat) : Int) < (L : Int) := by omega
                                        have im0 : (0 : Int) ≤ ((minI c k : Nat) : Int) := by omega
                                        generalize c.getD k 0 = x at *
                                        generalize c.getD (minI c k) 0 = y at *
                                        clear hml hmL
                                        generalize hmi : minI c k = mi at *
                                        clear hmi
                                        by_cases hxy : x < y
                                        · go_wp2
                                          go_quiet (fail)
                                          go_wp2
                                          go_roundg (L - (k + 1))
                                          case measure => omega
                                          case rel => exact ⟨k + 1, _, by omega, rfl, by go_num, by rw [HS.out, if_pos hxy], rfl⟩
                                        · have hxy' : decide (x < y) = false := by rw [decide_eq_false_iff_not]; exact hxy
                                          go_wp2
                                          go_quiet (fail)
                                          go_wp2
                                          go_roundg (L - (k + 1))
                                          case measure => omega
                                          case rel => exact ⟨k + 1, _, by omega, rfl, by go_num, by rw [HS.out, if_neg (by omega)], rfl⟩
                                      · have hkl : k = L := by omega
                                        rw [hkl]
                                        clear hkl hlt hk hml
                                        generalize hmi : minI c L = mi at *
                                        clear hmi
                                        go_wp2
                                        go_loopg [37] L (fun gk t wr => ∃ k m' : Nat, k ≤ L ∧ gk = L - k ∧ t = .int .i64 k ∧ wr = w8.drewN m')
                                        case atStart => exact ⟨0, m, Nat.zero_le _, rfl, rfl, rfl⟩
                                        case round =>
                                          obtain ⟨k, m', hk, rfl, rfl, hww⟩ := hrel
                                          subst hww
                                          by_cases hlt : k < L
                                          · have hjl : (mi + k) % L < L := Nat.mod_lt _ (by omega)
                                            have r0 := HRR.out k hlt
                                            have q0 := HQ.out ((mi + k) % L) hjl
                                            have htm : ((mi : Int) + (k : Int)).tmod (L : Int) = (((mi + k) % L : Nat) : Int) := by
                                              rw [Int.tmod_eq_emod_of_nonneg (by omega)]; simp
                                            have hwr : IntKind.i64.wrap ((mi : Int) + (k : Int)) = (mi : Int) + (k : Int) := wrap_small (by omega) (by omega)
                                            generalize c.getD ((mi + k) % L) 0 = y at *
                                            generalize (mi + k) % L = j at *
                                            have ik1 : (k : Int) < (L : Int) := by omega
                                            have ik0 : (0 : Int) ≤ (k : Int) := by omega
                                            have ij1 : (j : Int) < (L : Int) := by omega
                                            have ij0 : (0 : Int) ≤ (j : Int) := by omega
                                            go_wp2
                                            go_quiet (fail)
                                            go_wp2
                                            go_roundg (L - (k + 1))
                                            case measure => omega
                                            case rel => exact ⟨k + 1, _, by omega, rfl, by go_num, rfl⟩
                                          · go_wp2
                                            go_ret
                                            exact ⟨rfl, below_drewN hB8 _⟩
                      · rw [hio] at t1
                        have HV' : Hid (scanV (fun u => !inO ord (u : Int)) (n - (v + 1)) (v + 1) = leftV n ord) := by
                          show _ = _
                          rw [← HV.out]; exact (scanV_no _ _ _ hvn (by simp [hio])).symm
                        have hv2 : v + 1 ≤ leftV n ord := by have := (scanV_bounds (fun u => !inO ord (u : Int)) (n - (v + 1)) (v + 1)).1; rw [HV'.out] at this; exact this
                        go_wp2
                        go_round
                        case rel => exact ⟨v + 1, hv2, by go_num, HV'⟩
                        case measure => simp [intOf]; omega

set_option maxHeartbeats 400000 in
set_option maxRecDepth 100000 in
theorem qad_long (nr : Int) (ao : Option Addr) (len cap : Nat) (hlen : 1024 < len) (W : World) :
    Calls Ybdv.prog 7 #[.int .u8 nr, .slice ao len cap] W fun e w' => e = .returned (.bool true) ∧ w' = W := by
  go_enter Ybdv.func7, Ybdv.ntmps7
  go_wp2
  go_ret
  exact ⟨rfl, rfl⟩

end Go.Proofs.Ymwhbd
