import Derived.Test.YmwhbdRot
import Derived.Test.YmwhbdBackB
import Derived.Deep.LoopGhost
import Derived.Deep.Onto
namespace Go.Proofs.Ymwhbd
open Go.RowKit
set_option linter.unusedSimpArgs false
set_option linter.unusedVariables false

set_option maxHeartbeats 400000 in
theorem cyc_none (n : Nat) (hn : n ≤ 4096) {base : Nat} {v : Value} {es : List (Int × Int)} (hlen : es.length ≤ 100000) (hin : ∀ e ∈ es, inR (n : Int) e.1 e.2 = true) (gb : Nat) (W : World)
    (hg : W.heap[gb]? = some (.cells #[.int .i64 (n : Int), v] 31 (0, 0))) (h : EsIn base W v es) (hl : (peelN n es n).length = n) :
    Calls Ybdv.prog 22 #[.pointer (some ⟨gb, 0, none⟩)] W fun e w' => e = .returned (.tuple #[.slice none 0 0, .bool false]) ∧ Below W.heap.size W w' := by
  have c0 := gr_cell0 hg
  have zg := lt_of_block hg
  have hne : (((peelN n es n).length : Int) == (n : Int)) = true := by simp [hl]
  clear hl
  go_enter Ybdv.func22, Ybdv.ntmps22
  go_wp2_with (
    go_at_call 23
    refine (peel_any n hn hlen hin gb _ hg h).mono ?_
    rintro e w1 ⟨O, T, rfl, hO, hT, hb⟩
    have e0 : w1.cell? ⟨gb, 0, none⟩ = some (.int .i64 (n : Int)) := (hb.cell (p := ⟨gb, 0, none⟩) zg).trans c0)
  go_ret2
  exact ⟨rfl, hb⟩

/-- What memory holds while the path grows: the path, and where each vertex stands on it. -/
structure PathSt (W w1 wr : World) (n S P : Nat) (path : List Int) : Prop where
  pth : wr.ownsRow W.heap.size 3 1 (.slice (some ⟨P, 0, none⟩) path.length n) path.length (path.map (Value.int .i64))
  sen : wr.ownsRow W.heap.size 3 1 (.slice (some ⟨S, 0, none⟩) n n) n (tab n fun u => .int .i64 (atP path (u : Int)))
  bel : Below S w1 wr
  szS : S < wr.heap.size
  szP : P < wr.heap.size
theorem PathSt.alloc {W w1 wr : World} {n S P : Nat} {path : List Int} (h : PathSt W w1 wr n S P path) (o : Obj) : PathSt W w1 (wr.alloc o) n S P path := by
  have h1 := h.szS
  have h2 := h.szP
  exact ⟨h.pth.alloc _, h.sen.alloc _, h.bel.alloc (by omega) _, by simp; omega, by simp; omega⟩
theorem PathSt.step {W w1 wq w5 : World} {n S P : Nat} {path : List Int} (h : PathSt W w1 wq n S P path) (hSP : S < P) (v : Nat) (hio : inO path (v : Int) = false) (o : Obj)
    (hG : ((wq.setCell ⟨S, v, none⟩ (.int .i64 (path.length : Int))).alloc o).grownBy w5 (some P))
    (ho5 : w5.ownsRow W.heap.size 3 1 (.slice (some ⟨P, 0, none⟩) (path.length + 1) n) (path.length + 1) (path.map (Value.int .i64) ++ [.int .i64 (v : Int)])) :
    PathSt W w1 w5 n S P (path ++ [(v : Int)]) := by
  have l5 := hG.size
  simp at l5
  have h1 := h.szS
  have h2 := h.szP
  refine ⟨by simpa using ho5, ?_, ((h.bel.setCell (Nat.le_refl _) _).alloc (by simp; omega) _).grown hG (by simp; omega) (by simp; omega), by omega, by omega⟩
  refine World.ownsRow.kept (World.ownsRow.alloc (tab_stored h.sen v _ fun i hi => ?_) _) hG (.inr (by simp [Value.ownBlock]; omega))
  rw [atP_snoc hio]
  by_cases hiv : i = v
  · simp [hiv]
  · rw [if_neg hiv, if_neg (by omega)]

set_option maxHeartbeats 2000000 in
set_option maxRecDepth 100000 in
theorem cyc_some (n : Nat) (hn : n ≤ 4096) {base : Nat} {v : Value} {es : List (Int × Int)} (hlen : es.length ≤ 100000) (hin : ∀ e ∈ es, inR (n : Int) e.1 e.2 = true) (gb : Nat) (W : World)
    (hg : W.heap[gb]? = some (.cells #[.int .i64 (n : Int), v] 31 (0, 0))) (h : EsIn base W v es) (hl : (peelN n es n).length ≠ n) :
    Calls Ybdv.prog 22 #[.pointer (some ⟨gb, 0, none⟩)] W fun e w' => ∃ R : Nat, e = .returned (.tuple #[.slice (some ⟨R, 0, none⟩) (cycRes (predV es (peelN n es n)) n (peelN n es n)).length (cycRes (predV es (peelN n es n)) n (peelN n es n)).length, .bool true]) ∧
      w'.ownsRow W.heap.size 3 1 (.slice (some ⟨R, 0, none⟩) (cycRes (predV es (peelN n es n)) n (peelN n es n)).length (cycRes (predV es (peelN n es n)) n (peelN n es n)).length) (cycRes (predV es (peelN n es n)) n (peelN n es n)).length ((rotM (cycRes (predV es (peelN n es n)) n (peelN n es n))).map (Value.int .i64)) ∧
      0 < (cycRes (predV es (peelN n es n)) n (peelN n es n)).length ∧ Below W.heap.size W w' := by
  have c0 := gr_cell0 hg
  have c1 := gr_cell1 hg
  have zg := lt_of_block hg
  have hle := peelN_length n es n
  have hne : (((peelN n es n).length : Int) == (n : Int)) = false := by rw [beq_eq_false_iff_ne]; omega
  have hleft := leftV_lt (peel_count n es n) hl
  obtain ⟨ao, cap, rfl, _, _, hc⟩ := h.form
  obtain ⟨i3, hi3, h30, h31, h32⟩ := info_parts Ybdv.info3
  have HP := hide (peel_any n hn hlen hin gb W hg h)
  clear hg h hl
  generalize peelN n es n = ord at *
  generalize hfin : cycRes (predV es ord) n ord = CY at *
  have HFIN := hide hfin
  clear hfin
  go_enter Ybdv.func22, Ybdv.ntmps22
  go_wp2_with (
    go_at_call 23
    refine HP.out.mono ?_
    rintro e w1 ⟨O, T, rfl, hO, hT, hb⟩
    have e0 : w1.cell? ⟨gb, 0, none⟩ = some (.int .i64 (n : Int)) := (hb.cell (p := ⟨gb, 0, none⟩) zg).trans c0
    have e1 : w1.cell? ⟨gb, 1, none⟩ = some (.slice ao es.length cap) := (hb.cell (p := ⟨gb, 1, none⟩) zg).trans c1)
  clear hO HP
  have zT : T < w1.heap.size := (World.ownsRow.lt hT _ rfl).2
  have lW := hb.size
  go_loop [6] (fun t => ∃ v : Nat, v ≤ leftV n ord ∧ t = .int .i64 v ∧ Hid (scanV (fun u => !inO ord (u : Int)) (n - v) v = leftV n ord)) (fun t => n - (intOf t).toNat)
  case atStart => exact ⟨0, Nat.zero_le _, rfl, show _ = _ from rfl⟩
  case round =>
    obtain ⟨v, hv, rfl, HV⟩ := hrel
    have hvn : v < n := by omega
    have t1 := tab_cell hT v hvn
    have ivn : (v : Int) < (n : Int) := by omega
    have iv0 : (0 : Int) ≤ (v : Int) := by omega
    cases hio : inO ord (v : Int)
    · have HLV : Hid (leftV n ord = v) := by show _ = _; rw [← HV.out]; exact scanV_yes _ _ _ hvn (by simp [hio])
      rw [hio] at t1
      go_wp2_with (
        at_make
        refine wpList_make_full _ rfl (.tmp 35) (.tmp 35) 39 rfl W.heap.size 3 i3 _ 1 Ybdv.underlying39 hi3 h30 h31 .i64 .i64 _ _ n rfl rfl rfl rfl ?_ ?_ ?_ ?_
        · rw [h32]; omega
        · unfold maxLen; omega
        · omega)
      intro w2 ho2 hG2
      have hb2 := below_grow hG2
      have lS : w1.heap.size < w2.heap.size := (World.ownsRow.lt ho2 _ rfl).2
      have ezero : (tab n fun i => Value.int .i64 (if i < 0 then -1 else 0)) = (madeCells #[Value.int .i64 0] n).toList := by
        rw [toList_madeCells_one, ← tab_const]
        simp
      rw [← ezero] at ho2
      clear hG2 ezero HV t1 hio ivn iv0
      go_wp2
      go_loopg [39] n (fun gk i wr => ∃ k : Nat, k ≤ n ∧ gk = n - k ∧ i = .int .i64 k ∧ wr.ownsRow W.heap.size 3 1 (.slice (some ⟨w1.heap.size, 0, none⟩) n n) n (tab n fun i => .int .i64 (if i < k then -1 else 0)) ∧ Below w1.heap.size w1 wr)
      case atStart => exact ⟨0, Nat.zero_le _, by omega, rfl, ho2, hb2⟩
      case round =>
        clear ho2 hb2
        obtain ⟨k, hk, rfl, rfl, ho, hb3⟩ := hrel
        rename World => wq
        have lq : w1.heap.size < wq.heap.size := (World.ownsRow.lt ho _ rfl).2
        by_cases hkn : k < n
        · have td := tab_cell ho k hkn
          have fd := tab_free ho k
          have ik1 : (k : Int) < (n : Int) := by omega
          have ik0 : (0 : Int) ≤ (k : Int) := by omega
          go_wp2
          go_roundg (n - (k + 1))
          case measure => omega
          case rel =>
            refine ⟨k + 1, by omega, rfl, by go_num, tab_stored ho k _ fun i hi => ?_, hb3.setCell (Nat.le_refl _) _⟩
            by_cases hik : i = k
            · subst hik; simp
            · rw [if_neg hik]
              by_cases h' : i < k
              · rw [if_pos h', if_pos (by omega)]
              · rw [if_neg h', if_neg (by omega)]
        · have hkn' : k = n := by omega
          subst hkn'
          have e0q : wq.cell? ⟨gb, 0, none⟩ = some (.int .i64 (k : Int)) := (hb3.cell (p := ⟨gb, 0, none⟩) (show gb < w1.heap.size by omega)).trans e0
          go_wp2_with (
            at_make
            refine wpList_make_own _ rfl (.const (.int .i64 0)) (.tmp 49) 39 rfl W.heap.size 3 i3 _ 1 Ybdv.underlying39 hi3 h30 h31 .i64 .i64 _ k rfl rfl rfl ?_ ?_ ?_ ?_
            · rw [h32]; omega
            · unfold maxLen; omega
            · omega)
          intro w4 ho4 hG4
          have lP : wq.heap.size < w4.heap.size := (World.ownsRow.lt ho4 _ rfl).2
          have hPS : PathSt W w1 w4 k w1.heap.size wq.heap.size [] := by
            refine ⟨ho4, ?_, hb3.trans ((below_grow hG4).mono (by omega)), by omega, lP⟩
            have e2 : (tab k fun u => Value.int .i64 (atP [] (u : Int))) = tab k fun i => Value.int .i64 (if i < k then -1 else 0) := by
              apply tab_congr
              intro i hi
              rw [atP_neg (inO_nil _), if_pos hi]
            rw [e2]; exact ho.kept hG4 (.inr (by simp [Value.ownBlock]))
          generalize hPb : wq.heap.size = P at *
          generalize hSb : w1.heap.size = S at *
          clear hPb ho ho4 hG4 e0q hb3 hk
          have hSP : S < P := by omega
          have zgS : gb < S := by omega
          have lSS : S ≤ S := Nat.le_refl _
          go_wp2
          go_loopg [6, 9] k (fun gk t6 t9 wr => ∃ (path : List Int) (v : Nat), v < k ∧ t6 = .int .i64 v ∧ t9 = .slice (some ⟨P, 0, none⟩) path.length k ∧ gk = freeC k path ∧ path.length + freeC k path = k ∧ PathSt W w1 wr k S P path ∧
              Hid (bwF (predV es ord) (freeC k path + 1) path (v : Int) = bwF (predV es ord) (k + 1) [] (leftV k ord : Int)))
          case atStart =>
            refine ⟨[], v, hvn, rfl, rfl, (freeC_nil k).symm, by simp [freeC_nil], hPS, ?_⟩
            show _ = _
            rw [freeC_nil, HLV.out]
          case round =>
            clear HLV hPS hvn hv
            obtain ⟨path, v, hvn, rfl, rfl, rfl, hct, hPS, HBW⟩ := hrel
            rename World => wp
            have t7 := tab_cell hPS.sen v hvn
            have iv1 : (v : Int) < (k : Int) := by omega
            have iv0 : (0 : Int) ≤ (v : Int) := by omega
            cases hio : inO path (v : Int)
            · have f7 := tab_free hPS.sen v
              have hOs := ownsRow_setCell_other hPS.pth (a := ⟨S, v, none⟩) (by simp [Value.ownBlock]; omega) (.int .i64 (path.length : Int))
              have hfs := freeC_snoc hvn hio
              rw [atP_neg hio] at t7
              go_wp2_with (
                at_builtin
                refine wpList_append_fits _ rfl (.tmp 61) (.tmp 63) 39 rfl W.heap.size 3 i3 1 Ybdv.underlying39 hi3 h31 P path.length k _ rfl (hOs.alloc _) ⟨wp.heap.size, 0, none⟩ 1 1 [.int .i64 (v : Int)] rfl rfl ?_ ?_ ?_ ?_
                · exact news_one (by simp) _ _
                · exact ints_oneCell .i64 [(v : Int)]
                · omega)
              intro w5 ho5 hG5
              have hPS5 := hPS.step hSP v hio _ hG5 ho5
              have g1 : w5.cell? ⟨gb, 1, none⟩ = some (.slice ao es.length cap) := (hPS5.bel.cell (p := ⟨gb, 1, none⟩) zgS).trans e1
              have HB2 : Hid (bwF (predV es ord) (freeC k (path ++ [(v : Int)]) + 1) (path ++ [(v : Int)]) (predV es ord (v : Int)) = bwF (predV es ord) (k + 1) [] (leftV k ord : Int)) := by
                show _ = _
                rw [← HBW.out]; exact (bwF_go _ hvn hio).symm
              clear hPS HBW t7 f7 hOs ho5 hG5
              go_wp2
              go_loopg [6, 70] es.length (fun gk t6 t70 wr => ∃ j : Nat, j ≤ es.length ∧ gk = es.length - j ∧ t6 = .int .i64 (v : Int) ∧ t70 = .int .i64 (j : Int) ∧ PathSt W w1 wr k S P (path ++ [(v : Int)]) ∧
                Hid ((es.take j).find? (fun e => decide (e.2 = (v : Int)) && !inO ord e.1) = none))
              case atStart => exact ⟨0, Nat.zero_le _, rfl, rfl, rfl, hPS5, show _ = _ from rfl⟩
              case round =>
                clear hPS5 g1
                obtain ⟨j, hj, rfl, rfl, rfl, hPS, HJ⟩ := hrel
                rename World => w6
                by_cases hlt : j < es.length
                · obtain ⟨g, rfl, hgl, q0, q1⟩ := hc j hlt
                  obtain ⟨a, b, hab, ha, hbn⟩ := in_range (hin es[j] (List.getElem_mem hlt))
                  have HP2 : Hid ((decide (es[j].2 = (v : Int)) && !inO ord es[j].1) = (((b : Int) == (v : Int)) && !inO ord (a : Int))) := by
                    show _ = _
                    rw [hab, Bool.eq_iff_iff]; simp
                  have HAB := hide hab
                  rw [hab] at q0 q1
                  have k0 : w6.cell? ⟨g, j * 2, none⟩ = some (.int .i64 a) := (hPS.bel.cell (p := ⟨g, j * 2, none⟩) (show g < S by omega)).trans ((hb.cell (p := ⟨g, j * 2, none⟩) hgl).trans q0)
                  have k1 : w6.cell? ⟨g, j * 2 + 1, none⟩ = some (.int .i64 b) := (hPS.bel.cell (p := ⟨g, j * 2 + 1, none⟩) (show g < S by omega)).trans ((hb.cell (p := ⟨g, j * 2 + 1, none⟩) hgl).trans q1)
                  have ka : w6.cell? ⟨T, a, none⟩ = some (.bool (inO ord (a : Int))) := (hPS.bel.cell (p := ⟨T, a, none⟩) zT).trans (tab_cell hT a ha)
                  have ia1 : (a : Int) < (k : Int) := by omega
                  have ia0 : (0 : Int) ≤ (a : Int) := by omega
                  have lS6 := hPS.szS
                  have lT6 : T < w6.heap.size := by omega
                  clear q0 q1 hab hc hin
                  cases hbv : ((b : Int) == (v : Int))
                  · rw [hbv] at HP2
                    go_wp2
                    go_roundg (es.length - (j + 1))
                    case measure => omega
                    case rel => exact ⟨j + 1, by omega, rfl, rfl, by go_num, hPS.alloc _, find_succ_none hlt HJ.out HP2.out⟩
                  · cases hia : inO ord (a : Int)
                    · rw [hbv, hia] at HP2
                      rw [hia] at ka
                      have HB3 : Hid (bwF (predV es ord) (freeC k (path ++ [(v : Int)]) + 1) (path ++ [(v : Int)]) (a : Int) = bwF (predV es ord) (k + 1) [] (leftV k ord : Int)) := by
                        show _ = _
                        rw [← HB2.out, predV_some (find_succ_some hlt HJ.out HP2.out), HAB.out]
                      go_wp2
                      go_roundg (freeC k (path ++ [(v : Int)]))
                      case measure => omega
                      case rel => exact ⟨path ++ [(v : Int)], a, ha, rfl, by simp, rfl, by simp; omega, hPS.alloc _, HB3⟩
                    · rw [hbv, hia] at HP2
                      rw [hia] at ka
                      go_wp2
                      go_roundg (es.length - (j + 1))
                      case measure => omega
                      case rel => exact ⟨j + 1, by omega, rfl, rfl, by go_num, hPS.alloc _, find_succ_none hlt HJ.out HP2.out⟩
                · have HB3 : Hid (bwF (predV es ord) (freeC k (path ++ [(v : Int)]) + 1) (path ++ [(v : Int)]) (v : Int) = bwF (predV es ord) (k + 1) [] (leftV k ord : Int)) := by
                    show _ = _
                    have hje : es.take j = es := List.take_of_length_le (by omega)
                    have := HJ.out
                    rw [hje] at this
                    rw [← HB2.out, predV_none this]
                  go_wp2
                  go_roundg (freeC k (path ++ [(v : Int)]))
                  case measure => omega
                  case rel => exact ⟨path ++ [(v : Int)], v, hvn, rfl, by simp, rfl, by simp; omega, hPS, HB3⟩
            · obtain ⟨hat, hsl⟩ := atP_pos hio
              rw [hat] at t7
              have HCY : Hid (CY = (path.drop (path.idxOf (v : Int))).reverse) := by
                show _ = _
                rw [← HFIN.out]
                unfold cycRes
                rw [← HBW.out, bwF_stop _ _ _ _ hio]
                rfl
              clear HFIN HBW hio hat
              generalize path.idxOf (v : Int) = s at *
              have is0 : ¬ (s : Int) < 0 := by omega
              have is0' : decide ((s : Int) < 0) = false := by rw [decide_eq_false_iff_not]; omega
              have szS := hPS.szS
              have szP := hPS.szP
              have hsub : ((path.length : Int) - (s : Int)) = ((path.length - s : Nat) : Int) := by omega
              go_wp2_with (
                at_make
                refine wpList_make_own _ rfl (.const (.int .i64 0)) (.tmp 95) 39 rfl W.heap.size 3 i3 _ 1 Ybdv.underlying39 hi3 h30 h31 .i64 .i64 _ (path.length - s) rfl rfl rfl ?_ ?_ ?_ ?_
                · rw [h32]; omega
                · unfold maxLen; omega
                · omega)
              intro w7 ho7 hG7
              have lQ : wp.heap.size < w7.heap.size := (World.ownsRow.lt ho7 _ rfl).2
              have b7 := below_grow hG7
              have s7 : w7.cell? ⟨S, v, none⟩ = some (.int .i64 (s : Int)) := (b7.cell (p := ⟨S, v, none⟩) szS).trans t7
              have p7 : ∀ i (hi : i < path.length), w7.cell? ⟨P, i, none⟩ = some (.int .i64 path[i]) := fun i hi => (b7.cell (p := ⟨P, i, none⟩) szP).trans (ints_cell hPS.pth i hi)
              have hB7 : Below W.heap.size W w7 := (hb.trans (hPS.bel.mono lW)).trans (b7.mono (by omega))
              have HP7 := hide p7
              clear hG7 b7 p7 t7 hPS
              generalize hQ : wp.heap.size = Q at *
              clear hQ hsub
              go_wp2
              go_loopg [12, 13] (path.length - s) (fun gk t12 t13 wr => ∃ (j : Nat) (x : Int), s ≤ j ∧ j ≤ path.length ∧ gk = j - s ∧ x = (j : Int) - 1 ∧ t13 = .int .i64 x ∧ t12 = .slice (some ⟨Q, 0, none⟩) ((path.drop j).reverse).length (path.length - s) ∧
                wr.ownsRow W.heap.size 3 1 (.slice (some ⟨Q, 0, none⟩) ((path.drop j).reverse).length (path.length - s)) ((path.drop j).reverse).length (((path.drop j).reverse).map (Value.int .i64)) ∧ Below Q w7 wr)
              case atStart =>
                refine ⟨path.length, _, by omega, Nat.le_refl _, rfl, rfl, by go_num, by simp, by simpa using ho7, Below.refl _ _⟩
              case round =>
                obtain ⟨j, x, hsj, hj, rfl, hx, rfl, rfl, ho, hB⟩ := hrel
                rename World => w8
                have s8 : w8.cell? ⟨S, v, none⟩ = some (.int .i64 (s : Int)) := (hB.cell (p := ⟨S, v, none⟩) (show S < Q by omega)).trans s7
                by_cases hjs : s < j
                · obtain ⟨i, rfl⟩ : ∃ i, j = i + 1 := ⟨j - 1, by omega⟩
                  have hxi : x = (i : Int) := by omega
                  clear hx
                  subst hxi
                  have hil : i < path.length := by omega
                  have p8 : w8.cell? ⟨P, i, none⟩ = some (.int .i64 path[i]) := (hB.cell (p := ⟨P, i, none⟩) (show P < Q by omega)).trans (HP7.out i hil)
                  have HD := hide (drop_rev hil)
                  have ii : (i : Int) < (path.length : Int) := by omega
                  have ii0 : (0 : Int) ≤ (i : Int) := by omega
                  have iis : (s : Int) ≤ (i : Int) := by omega
                  have hcl : ((path.drop (i + 1)).reverse).length + 1 ≤ path.length - s := by simp; omega
                  have lQ8 : Q < w8.heap.size := (World.ownsRow.lt ho _ rfl).2
                  generalize path[i] = y at *
                  generalize (path.drop (i + 1)).reverse = c at *
                  go_wp2_with (
                    at_builtin
                    refine wpList_append_fits _ rfl (.tmp 108) (.tmp 113) 39 rfl W.heap.size 3 i3 1 Ybdv.underlying39 hi3 h31 Q c.length (path.length - s) _ rfl (ho.alloc _) ⟨w8.heap.size, 0, none⟩ 1 1 [.int .i64 y] rfl rfl ?_ ?_ ?_ ?_
                    · exact news_one (by simp) _ _
                    · exact ints_oneCell .i64 [y]
                    · omega)
                  intro w9 ho9 hG9
                  go_wp2
                  go_roundg (i - s)
                  case measure => omega
                  case rel => exact ⟨i, _, by omega, by omega, rfl, rfl, by go_num, by rw [HD.out]; simp, by rw [HD.out]; simpa using ho9, (hB.alloc (by omega) _).grown hG9 (by simp; omega) (by simp)⟩
                · obtain rfl : s = j := by omega
                  have ixs : ¬ (s : Int) ≤ x := by omega
                  have ixs' : decide ((s : Int) ≤ x) = false := by rw [decide_eq_false_iff_not]; exact ixs
                  have h0c : 0 < ((path.drop s).reverse).length := by simp; omega
                  have hcl : ((path.drop s).reverse).length ≤ path.length - s := by simp
                  have lQ8 : Q < w8.heap.size := (World.ownsRow.lt ho _ rfl).2
                  have hB8 : Below W.heap.size W w8 := hB7.trans (hB.mono (by omega))
                  generalize (path.drop s).reverse = c at *
                  go_wp2_with (
                    go_at_call 25
                    refine (rot_any c (by omega) h0c Q _ hcl _ ho).mono ?_
                    rintro e w10 ⟨R, rfl, hR, hB10⟩)
                  go_ret2
                  rw [HCY.out]
                  exact ⟨R, rfl, World.ownsRow.mono hR hB8.size, h0c, hB8.trans (hB10.mono hB8.size)⟩
    · rw [hio] at t1
      have HV' : Hid (scanV (fun u => !inO ord (u : Int)) (n - (v + 1)) (v + 1) = leftV n ord) := by
        show _ = _
        rw [← HV.out]; exact (scanV_no _ _ _ hvn (by simp [hio])).symm
      have hv2 : v + 1 ≤ leftV n ord := by have := (scanV_bounds (fun u => !inO ord (u : Int)) (n - (v + 1)) (v + 1)).1; rw [HV'.out] at this; exact this
      go_wp2
      go_round
      case rel => exact ⟨v + 1, hv2, by go_num, HV'⟩
      case measure => simp [intOf]; omega

end Go.Proofs.Ymwhbd
