import Derived.Test.YmwhbdQaeP
namespace Go.Proofs.Ymwhbd
open Go.RowKit
set_option linter.unusedSimpArgs false
set_option linter.unusedVariables false

set_option maxHeartbeats 4000000 in
set_option maxRecDepth 100000 in
theorem qae_walk (nr : Int) (h0 : 0 ≤ nr) (h1 : nr ≤ 255) (dense : Bool) (ao : Option Addr) (cap : Nat) (ps : List (Int × Int)) (hps : ∀ p ∈ ps, 0 ≤ p.1 ∧ p.1 ≤ 255 ∧ 0 ≤ p.2 ∧ p.2 ≤ 255) (hlen : ps.length ≤ 1024)
    (bo : Option Addr) (bcap : Nat) (rs : List Int) (hrs : ∀ r ∈ rs, -128 ≤ r ∧ r ≤ 127) (hrl : rs.length ≤ 1024) (W : World) (hraw : RawIn W .u8 ao ps) (hri : RawInts W .i8 bo rs) :
    Calls Ybdv.prog 6 #[.int .u8 nr, .bool dense, .slice ao ps.length cap, .slice bo rs.length bcap] W fun e w' => e = .returned (.bool true) ∧ Below W.heap.size W w' := by
  obtain ⟨i3, hi3, h30, h31, h32⟩ := info_parts Ybdv.info3
  obtain ⟨n, hn, hn1⟩ : ∃ n : Nat, nr % 9 = (n : Int) ∧ n ≤ 8 := ⟨(nr % 9).toNat, by omega, by omega⟩
  have hn0 : (0 : Int) ≤ (n : Int) := by omega
  have hzv := zero55_run
  go_enter Ybdv.func6, Ybdv.ntmps6
  go_upto_if 49 with (
    go_at_call 9
    refine (from_any (n : Int) hn0 (by omega) [] (by simp) (by simp) _ (EsIn.nil W.heap.size _)).mono ?_
    rintro e w1 ⟨v1, rfl, hE1, hb1⟩
    obtain ⟨a1, c1, rfl⟩ := hE1.shape)
  have l1 : W.heap.size + 1 ≤ w1.heap.size := by have := hb1.size; simpa using this
  have hS1 : QaeSt W (w1.alloc (.cells #[.int .i64 (n : Int), .slice a1 (frm (n : Int) []).length c1] 31)) w1.heap.size W.heap.size n 0 := by
    refine ⟨_, [], fun _ => false, ⟨heap_alloc_new w1 _, ?_, List.Pairwise.nil, ((arr_z55 W).below hb1 (by simp)).alloc _, by simp, by simp, ?_⟩, by simp⟩
    · have := hE1.alloc (.cells #[.int .i64 (n : Int), .slice a1 (frm (n : Int) []).length c1] 31)
      exact EsIn.rebase this (fun k hk => by have := (World.ownsRow.lt hE1 k hk).1; simp at this; omega)
    · exact (((Below.refl _ _).alloc (Nat.le_refl _) _).trans (hb1.mono (by simp))).alloc (by omega) _
  generalize hgb : w1.heap.size = gb at *
  generalize hwS : w1.alloc (.cells #[.int .i64 (n : Int), .slice a1 (frm (n : Int) []).length c1] 31) = wS at *
  clear hwS hE1 hb1 hzv hgb
  go_cut [13] (fun _ wc => QaeSt W wc gb W.heap.size n 2000)
  case first =>
    by_cases hp : 0 < n
    · have hp' : (0 : Int) < (n : Int) := by omega
      rw [show decide (0 < n) = true by simpa using hp]
      go_upto_if 50 with fail
      go_cut [13] (fun _ wc => QaeSt W wc gb W.heap.size n 100)
      case first =>
        cases dense
        · go_wp2
          go_meet
          case rel =>
            obtain ⟨ev, G, f, hI, hK⟩ := hS1
            exact ⟨ev, G, f, hI, by omega⟩
        · go_wp2
          go_loopg [13] n (fun gk i wr => ∃ u : Nat, u ≤ n ∧ gk = n - u ∧ i = .int .i64 u ∧ QaeSt W wr gb W.heap.size n (u * 9))
          case atStart => exact ⟨0, Nat.zero_le _, by omega, rfl, by simpa using hS1⟩
          case round =>
            obtain ⟨u, hu, rfl, rfl, hS⟩ := hrel
            by_cases hun : u < n
            · go_wp2
              go_loopg [14] n (fun gk i wr => ∃ v : Nat, v ≤ n ∧ gk = n - v ∧ i = .int .i64 v ∧ QaeSt W wr gb W.heap.size n (u * 9 + v))
              case atStart => exact ⟨0, Nat.zero_le _, by omega, rfl, hS⟩
              case round =>
                clear hS
                obtain ⟨v, hv, rfl, rfl, ev, G, f, hI, hK⟩ := hrel
                rename World => wq
                by_cases hvn : v < n
                · have iu : (u : Int) < 9 := by omega
                  have iv : (v : Int) < 9 := by omega
                  have hgI := hI.hg
                  have hEI := hI.hE
                  have hsI := hI.hs
                  have lq := hI.hb.size
                  go_wp2_with (
                    go_at_call 15
                    refine (add_any (base := W.heap.size) hsI ?_ (n : Int) gb _ _ _ hgI hEI lq).mono ?_
                    · omega
                    rintro e w2 ⟨rfl, ev', hg2, hE2, hG2⟩
                    have hA2 := hI.hA.kept hG2 (by simp; omega)
                    have t1 := hA2.cell (u * 9 + v) (by omega)
                    have t2 := hA2.free (u * 9 + v))
                  go_roundg (n - (v + 1))
                  case measure => omega
                  case rel => exact ⟨v + 1, by omega, rfl, by go_num, qae_add hI (by omega) hun hvn (by omega) (by omega) (Nat.le_refl _) hG2 hg2 hE2 hK⟩
                · go_wp2
                  go_roundg (n - (u + 1))
                  case measure => omega
                  case rel => exact ⟨u + 1, by omega, rfl, by go_num, ev, G, f, hI, by omega⟩
            · go_wp2
              go_meet
              case rel =>
                obtain ⟨ev, G, f, hI, hK⟩ := hS
                exact ⟨ev, G, f, hI, by omega⟩
      case rest =>
        clear hS1
        go_wp2
        go_loopg [70] ps.length (fun gk i wr => ∃ k : Nat, k ≤ ps.length ∧ gk = ps.length - k ∧ i = .int .i64 k ∧ QaeSt W wr gb W.heap.size n (100 + k))
        case atStart => exact ⟨0, Nat.zero_le _, by omega, rfl, hcut⟩
        case round =>
          clear hcut
          obtain ⟨k, hk, rfl, rfl, ev, G, f, hI, hK⟩ := hrel
          rename World => wq
          by_cases hlt : k < ps.length
          · obtain ⟨b, off, rfl, hbl, q0, q1⟩ := hraw k hlt
            obtain ⟨r0, r1, r2, r3⟩ := hps ps[k] (List.getElem_mem hlt)
            have hb := hI.hb
            have lq := hb.size
            have k0 : wq.cell? ⟨b, off + k * 2, none⟩ = some (.int .u8 ps[k].1) := (hb.cell (p := ⟨b, off + k * 2, none⟩) hbl).trans q0
            have k1 : wq.cell? ⟨b, off + k * 2 + 1, none⟩ = some (.int .u8 ps[k].2) := (hb.cell (p := ⟨b, off + k * 2 + 1, none⟩) hbl).trans q1
            generalize ps[k] = p at *
            obtain ⟨u, hu, hun⟩ : ∃ u : Nat, p.1 % (n : Int) = (u : Int) ∧ u < n :=
              ⟨(p.1 % (n : Int)).toNat, by have := Int.emod_nonneg p.1 (show (n : Int) ≠ 0 by omega); omega, by have := Int.emod_nonneg p.1 (show (n : Int) ≠ 0 by omega); have := Int.emod_lt_of_pos p.1 hp'; omega⟩
            obtain ⟨v, hv, hvn⟩ : ∃ v : Nat, p.2 % (n : Int) = (v : Int) ∧ v < n :=
              ⟨(p.2 % (n : Int)).toNat, by have := Int.emod_nonneg p.2 (show (n : Int) ≠ 0 by omega); omega, by have := Int.emod_nonneg p.2 (show (n : Int) ≠ 0 by omega); have := Int.emod_lt_of_pos p.2 hp'; omega⟩
            have iu : (u : Int) < 9 := by omega
            have iv : (v : Int) < 9 := by omega
            have hI1 : QaeIn W (wq.alloc (.cells #[.int .u8 p.1, .int .u8 p.2] 57)) gb W.heap.size n ev G f := hI.below ((Below.refl _ _).alloc (Nat.le_refl _) _)
            have hgI := hI1.hg
            have hEI := hI1.hE
            have hsI := hI1.hs
            have lq1 := hI1.hb.size
            clear q0 q1 hraw hps hI
            cases dense
            · go_wp2_with (
                go_at_call 15
                refine (add_any (base := W.heap.size) hsI ?_ (n : Int) gb _ _ _ hgI hEI lq1).mono ?_
                · omega
                rintro e w2 ⟨rfl, ev', hg2, hE2, hG2⟩
                have hA2 := hI1.hA.kept hG2 (by simp; omega)
                have t1 := hA2.cell (u * 9 + v) (by omega)
                have t2 := hA2.free (u * 9 + v))
              go_roundg (ps.length - (k + 1))
              case measure => omega
              case rel => exact ⟨k + 1, by omega, rfl, by go_num, qae_add hI1 (by omega) hun hvn (by omega) (by omega) (Nat.le_refl _) hG2 hg2 hE2 hK⟩
            · go_wp2_with (
                go_at_call 16
                refine (rem_any (base := W.heap.size) hsI ?_ (n : Int) gb _ _ _ hgI hEI lq1).mono ?_
                · omega
                rintro e w2 ⟨rfl, ev', hg2, hE2, hG2, _⟩
                have hA2 := hI1.hA.kept hG2 (by simp; omega)
                have t1 := hA2.cell (u * 9 + v) (by omega)
                have t2 := hA2.free (u * 9 + v))
              go_roundg (ps.length - (k + 1))
              case measure => omega
              case rel => exact ⟨k + 1, by omega, rfl, by go_num, qae_rem hI1 (by omega) hun hvn (by omega) (by omega) (Nat.le_refl _) hG2 hg2 hE2 hK⟩
          · go_wp2
            go_meet
            case rel => exact ⟨ev, G, f, hI, by omega⟩
    · have hp' : ¬ (0 : Int) < (n : Int) := by omega
      go_wp2
      go_meet
      case rel =>
        obtain ⟨ev, G, f, hI, hK⟩ := hS1
        exact ⟨ev, G, f, hI, by omega⟩
  case rest =>
    clear hS1 hraw hps
    obtain ⟨ev, G, f, hI, hK⟩ := hcut
    have lc := hI.hb.size
    have i3l : rs.length ≤ 1024 := hrl
    go_wp2_with (
      at_make
      refine wpList_make_full _ rfl (.tmp 103) (.tmp 103) 39 rfl W.heap.size 3 i3 _ 1 Ybdv.underlying39 hi3 h30 h31 .i64 .i64 _ _ rs.length rfl rfl rfl rfl ?_ ?_ ?_ ?_
      · rw [h32]; omega
      · unfold maxLen; omega
      · omega)
    intro w2 ho2 hG2
    have l2 := hG2.size
    have lC : wc.heap.size < w2.heap.size := (World.ownsRow.lt ho2 _ rfl).2
    have hI2 := hI.below (below_grow hG2)
    go_wp2_with (
      at_make
      refine wpList_make_full _ rfl (.tmp 106) (.tmp 106) 39 rfl W.heap.size 3 i3 _ 1 Ybdv.underlying39 hi3 h30 h31 .i64 .i64 _ _ rs.length rfl rfl rfl rfl ?_ ?_ ?_ ?_
      · rw [h32]; omega
      · unfold maxLen; omega
      · omega)
    intro w3 ho3 hG3
    have l3 := hG3.size
    have lD : w2.heap.size < w3.heap.size := (World.ownsRow.lt ho3 _ rfl).2
    have hI3 := hI2.below (below_grow hG3)
    have hC3 := ho2.kept hG3 (.inr (by simp [Value.ownBlock]))
    have zgb := lt_of_block hI.hg
    have zA := hI.hA.lt
    have zE := hI.hE.ownLt
    generalize hCb : wc.heap.size = C at *
    generalize hDb : w2.heap.size = D at *
    clear ho2 hG2 hG3 hI hI2 hCb hDb
    go_wp2
    have ezero : (tab rs.length fun i => Value.int .i64 (if i < 0 then (rs.getD i 0).tmod ((n : Int) + 2) else 0)) = (madeCells #[Value.int .i64 0] rs.length).toList := by
      rw [toList_madeCells_one, ← tab_const]
      simp
    rw [← ezero] at hC3 ho3
    go_loopg [110] rs.length (fun gk i wr => ∃ k : Nat, k ≤ rs.length ∧ gk = rs.length - k ∧ i = .int .i64 k ∧
        wr.ownsRow W.heap.size 3 1 (.slice (some ⟨C, 0, none⟩) rs.length rs.length) rs.length (tab rs.length fun i => .int .i64 (if i < k then (rs.getD i 0).tmod ((n : Int) + 2) else 0)) ∧
        wr.ownsRow W.heap.size 3 1 (.slice (some ⟨D, 0, none⟩) rs.length rs.length) rs.length (tab rs.length fun i => .int .i64 (if i < k then (rs.getD i 0).tmod ((n : Int) + 2) else 0)) ∧ Below C w3 wr)
    case atStart => exact ⟨0, Nat.zero_le _, by omega, rfl, hC3, ho3, Below.refl _ _⟩
    case round =>
      clear hC3 ho3 ezero
      obtain ⟨k, hk, rfl, rfl, hc, hd, hb⟩ := hrel
      rename World => wq
      have lq := hb.size
      by_cases hlt : k < rs.length
      · obtain ⟨b, off, rfl, hbl, q0⟩ := hri k hlt
        obtain ⟨r0, r1⟩ := hrs rs[k] (List.getElem_mem hlt)
        have k0 : wq.cell? ⟨b, off + k, none⟩ = some (.int .i8 rs[k]) := (hb.cell (p := ⟨b, off + k, none⟩) (show b < C by omega)).trans ((hI3.hb.cell (p := ⟨b, off + k, none⟩) hbl).trans q0)
        have hgd : rs.getD k 0 = rs[k] := by simp [List.getD, hlt]
        have tc := tab_cell hc k hlt
        have td := tab_cell hd k hlt
        have fc := tab_free hc k
        have fd := tab_free hd k
        have ik0 : (0 : Int) ≤ (k : Int) := by omega
        have ik1 : (k : Int) < (rs.length : Int) := by omega
        have HGD := hide hgd
        generalize rs[k] = x at *
        clear q0 hri hrs hgd
        go_wp2
        go_roundg (rs.length - (k + 1))
        case measure => omega
        case rel =>
          have hst : ∀ i, i < rs.length → (Value.int .i64 (if i < k + 1 then (rs.getD i 0).tmod ((n : Int) + 2) else 0)) = if i = k then Value.int .i64 (x.tmod ((n : Int) + 2)) else Value.int .i64 (if i < k then (rs.getD i 0).tmod ((n : Int) + 2) else 0) := by
            intro i hi'
            by_cases hik : i = k
            · subst hik; rw [if_pos rfl, if_pos (by omega), HGD.out]
            · rw [if_neg hik]
              by_cases h' : i < k
              · rw [if_pos h', if_pos (by omega)]
              · rw [if_neg h', if_neg (by omega)]
          refine ⟨k + 1, by omega, rfl, by go_num, ?_, ?_, (hb.setCell (Nat.le_refl _) _).setCell (show C ≤ D by omega) _⟩
          · exact ownsRow_setCell_other (tab_stored hc k _ hst) (by simp [Value.ownBlock]; omega) _
          · exact tab_stored (ownsRow_setCell_other hd (by simp [Value.ownBlock]; omega) _) k _ hst
      · have hkl : k = rs.length := by omega
        subst hkl
        have hI4 := hI3.belowB hb (by omega) (by omega) zE (by omega)
        obtain ⟨cl, hcl, hcc, hdd⟩ : ∃ cl : List Int, cl.length = rs.length ∧ (∀ i (hi : i < cl.length), wq.cell? ⟨C, i, none⟩ = some (.int .i64 cl[i])) ∧ (∀ i (hi : i < cl.length), wq.cell? ⟨D, i, none⟩ = some (.int .i64 cl[i])) := by
          refine ⟨rs.map fun x => x.tmod ((n : Int) + 2), by simp, ?_, ?_⟩
          · intro i hi'
            have hi2 : i < rs.length := by simpa using hi'
            rw [tab_cell hc i hi2, if_pos hi2]; simp [List.getD, hi2]
          · intro i hi'
            have hi2 : i < rs.length := by simpa using hi'
            rw [tab_cell hd i hi2, if_pos hi2]; simp [List.getD, hi2]
        have lC4 : C < wq.heap.size := by omega
        have lD4 : D < wq.heap.size := by omega
        have hIS := isc_any n (by omega) cl hI4.hs (by omega) hI4.hin (by omega) gb C rs.length wq hI4.hg hI4.hE lC4 hcc
        rw [hcl] at hIS
        have HIS := hide hIS
        have hMD : ∀ w5, Below wq.heap.size wq w5 → Calls Ybdv.prog 20 #[.int .i64 (n : Int), .pointer (some ⟨W.heap.size, 0, none⟩), .slice (some ⟨D, 0, none⟩) rs.length rs.length] w5 fun e w' => e = .returned (.bool (isCyc (adjP n f) cl)) ∧ Below w5.heap.size w5 w' := by
          intro w5 hb5
          have l5 := hb5.size
          have := mod_any n (by omega) f cl (by omega) W.heap.size D rs.length w5 (hI4.hA.below' hb5) (by omega) (fun i hi' => (hb5.cell (p := ⟨D, i, none⟩) lD4).trans (hdd i hi'))
          rwa [hcl] at this
        have HMD := hide hMD
        have HEQ : Hid (isCyc (adjP n f) cl = isCyc (fun a b => hasE G (a, b)) cl) := (isCyc_congr (qae_same hI4.hs hI4.hf hI4.hin) cl).symm
        have HCL := hide hcl
        clear hIS hMD hc hd hI3 hb hri hrs hcl
        go_wp2_with (
          first
          | (go_at_call 19
             refine HIS.out.mono ?_
             rintro e w5 ⟨rfl, hb5⟩)
          | (go_at_call 20
             refine (HMD.out w5 hb5).mono ?_
             rintro e w6 ⟨rfl, hb6⟩
             rw [HEQ.out]))
        have l5 := hb5.size
        have l6 := hb6.size
        have hI6 := (hI4.below hb5).below hb6
        have hc6 : ∀ i (hi : i < cl.length), w6.cell? ⟨C, i, none⟩ = some (.int .i64 cl[i]) := fun i hi' =>
          (hb6.cell (p := ⟨C, i, none⟩) (show C < w5.heap.size by omega)).trans ((hb5.cell (p := ⟨C, i, none⟩) lC4).trans (hcc i hi'))
        have hd6 : ∀ i (hi : i < cl.length), w6.cell? ⟨D, i, none⟩ = some (.int .i64 cl[i]) := fun i hi' =>
          (hb6.cell (p := ⟨D, i, none⟩) (show D < w5.heap.size by omega)).trans ((hb5.cell (p := ⟨D, i, none⟩) lD4).trans (hdd i hi'))
        clear hcc hdd hb5 hb6 hI4 HIS HMD HEQ
        go_loopg [140] rs.length (fun gk i wr => ∃ k m : Nat, k ≤ rs.length ∧ gk = rs.length - k ∧ i = .int .i64 k ∧ wr = w6.drewN m)
        case atStart => exact ⟨0, 0, Nat.zero_le _, by omega, rfl, rfl⟩
        case round =>
          obtain ⟨k, m, hk2, rfl, rfl, rfl⟩ := hrel
          by_cases hlt2 : k < rs.length
          · have k0 := hc6 k (by have := HCL.out; omega)
            have k1 := hd6 k (by have := HCL.out; omega)
            have ik0 : (0 : Int) ≤ (k : Int) := by omega
            have ik1 : (k : Int) < (rs.length : Int) := by omega
            generalize cl[k]'(by have := HCL.out; omega) = x at *
            clear hc6 hd6 hI6
            go_wp2
            go_quiet (fail)
            go_wp2
            go_roundg (rs.length - (k + 1))
            case measure => omega
            case rel => exact ⟨k + 1, _, by omega, rfl, by go_num, rfl⟩
          · clear hc6 hd6
            have hI7 := hI6.drewN m
            generalize hw7 : w6.drewN m = w7 at *
            clear hw7 hI6
            have c0 := gr_cell0 hI7.hg
            obtain ⟨ea, ec, rfl⟩ := hI7.hE.shape
            have c1 := gr_cell1 hI7.hg
            obtain ⟨a2', c2', hq2, _, _, hcE⟩ := hI7.hE.form
            simp only [Value.slice.injEq, true_and] at hq2
            obtain ⟨rfl, rfl⟩ := hq2
            have hne := neq28
            have hgd := guard28
            have hinG : ∀ e ∈ G, (0 ≤ e.1 ∧ e.1 < (n : Int)) ∧ 0 ≤ e.2 ∧ e.2 < (n : Int) := by
              intro e he; have := hI7.hin e he; simp [inR] at this; omega
            have HB := hide hI7.hb
            have HP0 : Hid (posE G ((0 : Int), 0) = 0) := posE_none hI7.hs (fun e he => ⟨(hinG e he).1.1, (hinG e he).2.1⟩)
            go_wp2
            go_loopg [27, 28] n (fun gk kk i wr => ∃ u : Nat, u ≤ n ∧ gk = n - u ∧ i = .int .i64 u ∧ kk = .int .i64 (posE G ((u : Int), 0)) ∧ w7 = wr)
            case atStart => exact ⟨0, Nat.zero_le _, by omega, rfl, by rw [show (((0 : Nat) : Int)) = 0 from rfl, HP0.out]; rfl, rfl⟩
            case round =>
              obtain ⟨u, hu, rfl, rfl, rfl, rfl⟩ := hrel
              by_cases hun : u < n
              · go_wp2
                go_loopg [27, 29] n (fun gk kk i wr => ∃ v : Nat, v ≤ n ∧ gk = n - v ∧ i = .int .i64 v ∧ kk = .int .i64 (posE G ((u : Int), (v : Int))) ∧ w7 = wr)
                case atStart => exact ⟨0, Nat.zero_le _, by omega, rfl, rfl, rfl⟩
                case round =>
                  obtain ⟨v, hv, rfl, rfl, rfl, rfl⟩ := hrel
                  by_cases hvn : v < n
                  · have iu : (u : Int) < 9 := by omega
                    have iv : (v : Int) < 9 := by omega
                    have ta := hI7.hA.cell (u * 9 + v) (by omega)
                    have HPS := hide (posE_succ_v hI7.hs (u : Int) (v : Int))
                    have hple := posE_le G ((u : Int), (v : Int))
                    cases hfv : f (u * 9 + v)
                    · rw [hfv] at ta
                      have HNM : Hid (((u : Int), (v : Int)) ∉ G) := by
                        intro h'; have := (hI7.hf u v hun hvn).1 h'; rw [hfv] at this; cases this
                      go_wp2
                      go_roundg (n - (v + 1))
                      case measure => omega
                      case rel =>
                        refine ⟨v + 1, by omega, rfl, by go_num, ?_, rfl⟩
                        rw [show (((v + 1 : Nat)) : Int) = (v : Int) + 1 by omega, HPS.out, if_neg HNM.out]; rfl
                    · rw [hfv] at ta
                      have hm := (hI7.hf u v hun hvn).2 hfv
                      have hha := (hasE_iff hI7.hs _).2 hm
                      unfold hasE at hha
                      rw [decide_eq_true_iff] at hha
                      obtain ⟨hlp, hgp⟩ := List.getElem?_eq_some_iff.1 hha
                      have HM := hide hm
                      obtain ⟨g, rfl, _, k0, k1⟩ := hcE _ hlp
                      rw [hgp] at k0 k1
                      have ik1 : ((posE G ((u : Int), (v : Int)) : Nat) : Int) < (G.length : Int) := by omega
                      have tq : (!((u : Int) == (u : Int) && (v : Int) == (v : Int))) = false := by simp
                      clear hm hha hgp hcE
                      generalize posE G ((u : Int), (v : Int)) = q at *
                      go_wp2
                      go_roundg (n - (v + 1))
                      case measure => omega
                      case rel =>
                        refine ⟨v + 1, by omega, rfl, by go_num, ?_, rfl⟩
                        rw [show (((v + 1 : Nat)) : Int) = (v : Int) + 1 by omega, HPS.out, if_pos HM.out]; rfl
                  · have HRW := hide (posE_row hI7.hs (fun e he => (hinG e he).2) (u : Int))
                    have hvn' : v = n := by omega
                    subst hvn'
                    go_wp2
                    go_roundg (v - (u + 1))
                    case measure => omega
                    case rel =>
                      refine ⟨u + 1, by omega, rfl, by go_num, ?_, rfl⟩
                      rw [HRW.out]; rfl
              · have HAL := hide (posE_all hI7.hs (fun e he => (hinG e he).1.2))
                have hun' : u = n := by omega
                subst hun'
                have hend : ((posE G ((u : Int), 0) : Int) == (G.length : Int)) = true := by rw [HAL.out]; simp
                go_wp2
                go_ret
                exact ⟨rfl, HB.out⟩

set_option maxHeartbeats 400000 in
set_option maxRecDepth 100000 in
theorem qae_long (nr : Int) (dense : Bool) (ao : Option Addr) (len cap : Nat) (bo : Option Addr) (blen bcap : Nat) (hlen : 1024 < len ∨ 1024 < blen) (W : World) :
    Calls Ybdv.prog 6 #[.int .u8 nr, .bool dense, .slice ao len cap, .slice bo blen bcap] W fun e w' => e = .returned (.bool true) ∧ w' = W := by
  by_cases h1 : 1024 < len
  · go_enter Ybdv.func6, Ybdv.ntmps6
    go_wp2
    go_ret
    exact ⟨rfl, rfl⟩
  · have h2 : 1024 < blen := by omega
    go_enter Ybdv.func6, Ybdv.ntmps6
    go_wp2
    go_ret
    exact ⟨rfl, rfl⟩

end Go.Proofs.Ymwhbd
