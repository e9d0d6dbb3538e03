import Derived.Test.YmwhbdPeel
namespace Go.Proofs.Ymwhbd
open Go.RowKit
set_option linter.unusedSimpArgs false
set_option linter.unusedVariables false

/-- What Order and the law's model hand back: the order and true, or nil and false. -/
def OrdRes (base : Nat) (n : Nat) (ord : List Int) (e : Ending) (w' : World) : Prop :=
  (ord.length = n ∧ ∃ O : Nat, e = .returned (.tuple #[.slice (some ⟨O, 0, none⟩) n n, .bool true]) ∧ w'.ownsRow base 3 1 (.slice (some ⟨O, 0, none⟩) n n) n (ord.map (Value.int .i64))) ∨
  (ord.length ≠ n ∧ e = .returned (.tuple #[.slice none 0 0, .bool false]))

set_option maxHeartbeats 400000 in
theorem order_any (n : Nat) (hn : n ≤ 4096) {base : Nat} {v : Value} {es : List (Int × Int)} (hlen : es.length ≤ 100000) (hin : ∀ e ∈ es, inR (n : Int) e.1 e.2 = true) (gb : Nat) (W : World)
    (hg : W.heap[gb]? = some (.cells #[.int .i64 (n : Int), v] 31 (0, 0))) (h : EsIn base W v es) :
    Calls Ybdv.prog 12 #[.pointer (some ⟨gb, 0, none⟩)] W fun e w' => OrdRes W.heap.size n (peelN n es n) e w' ∧ Below W.heap.size W w' := by
  have c0 := gr_cell0 hg
  have zg := lt_of_block hg
  have hpl := peelN_length n es n
  by_cases hl : (peelN n es n).length = n
  · have hne : (((peelN n es n).length : Int) != (n : Int)) = false := by simp [hl]
    have HL := hide hl
    clear hl
    go_enter Ybdv.func12, Ybdv.ntmps12
    go_wp2_with (
      go_at_call 23
      refine (peel_any n hn hlen hin gb _ hg h).mono ?_
      rintro e w1 ⟨O, T, rfl, hO, hT, hb⟩
      have e0 : w1.cell? ⟨gb, 0, none⟩ = some (.int .i64 (n : Int)) := (hb.cell (p := ⟨gb, 0, none⟩) zg).trans c0)
    go_ret2
    refine ⟨.inl ⟨HL.out, O, ret_sl HL.out, ?_⟩, hb⟩
    have := hO
    rw [HL.out] at this
    exact this
  · have hne : (((peelN n es n).length : Int) != (n : Int)) = true := by rw [bne_iff_ne]; omega
    go_enter Ybdv.func12, Ybdv.ntmps12
    go_wp2_with (
      go_at_call 23
      refine (peel_any n hn hlen hin gb _ hg h).mono ?_
      rintro e w1 ⟨O, T, rfl, hO, hT, hb⟩
      have e0 : w1.cell? ⟨gb, 0, none⟩ = some (.int .i64 (n : Int)) := (hb.cell (p := ⟨gb, 0, none⟩) zg).trans c0)
    go_ret2
    exact ⟨.inr ⟨hl, rfl⟩, hb⟩

/-! The law's model -/
/-- What memory holds in the midst of the model's run. -/
structure ModSt (W wr : World) (n O T : Nat) (ord : List Int) : Prop where
  ords : wr.ownsRow W.heap.size 3 1 (.slice (some ⟨O, 0, none⟩) ord.length n) ord.length (ord.map (Value.int .i64))
  taks : wr.ownsRow W.heap.size 4 1 (.slice (some ⟨T, 0, none⟩) n n) n (tab n fun u => .bool (inO ord (u : Int)))
  bel : Below W.heap.size W wr
  szO : O < wr.heap.size
  szT : T < wr.heap.size

theorem ModSt.alloc {W wr : World} {n O T : Nat} {ord : List Int} (h : ModSt W wr n O T ord) (hz : W.heap.size ≤ wr.heap.size) (o : Obj) : ModSt W (wr.alloc o) n O T ord :=
  ⟨h.ords.alloc _, h.taks.alloc _, h.bel.alloc hz _, by have := h.szO; simp; omega, by have := h.szT; simp; omega⟩

theorem ModSt.taken {W wq w5 : World} {n O T : Nat} {ord : List Int} (h : ModSt W wq n O T ord) (hOT : O ≠ T) (hWO : W.heap.size ≤ O) (hWT : W.heap.size ≤ T) (hz : W.heap.size ≤ wq.heap.size) (v : Nat) (o : Obj)
    (hG : ((wq.setCell ⟨T, v, none⟩ (.bool true)).alloc o).grownBy w5 (some O))
    (ho5 : w5.ownsRow W.heap.size 3 1 (.slice (some ⟨O, 0, none⟩) (ord.length + 1) n) (ord.length + 1) (ord.map (Value.int .i64) ++ [.int .i64 (v : Int)])) :
    ModSt W w5 n O T (ord ++ [(v : Int)]) := by
  have l5 := hG.size
  simp at l5
  have hO := h.szO
  have hT := h.szT
  refine ⟨?_, ?_, ?_, by omega, by omega⟩
  · simpa using ho5
  · refine World.ownsRow.kept (World.ownsRow.alloc (tab_stored h.taks v (.bool true) fun i hi => ?_) _) hG (.inr (by simp [Value.ownBlock]; omega))
    rw [inO_snoc]
    by_cases hiv : i = v
    · simp [hiv]
    · rw [if_neg hiv, show decide ((i : Int) = (v : Int)) = false by rw [decide_eq_false_iff_not]; omega]; simp
  · exact ((h.bel.setCell hWT _).alloc (by simp; omega) _).grown hG (by simp; omega) (by simp; omega)

set_option maxHeartbeats 1000000 in
set_option maxRecDepth 100000 in
theorem model_any (n : Nat) (hn : n ≤ 4096) {base : Nat} {v : Value} {es : List (Int × Int)} (hlen : es.length ≤ 100000) (hin : ∀ e ∈ es, inR (n : Int) e.1 e.2 = true) (W : World) (h : EsIn base W v es) :
    Calls Ybdv.prog 13 #[.int .i64 (n : Int), v] W fun e w' => OrdRes W.heap.size n (peelN n es n) e w' ∧ Below W.heap.size W w' := by
  obtain ⟨ao, cap, rfl, _, _, hc⟩ := h.form
  obtain ⟨i3, hi3, h30, h31, h32⟩ := info_parts Ybdv.info3
  obtain ⟨i4, hi4, h40, h41, h42⟩ := info_parts Ybdv.info4
  clear h
  go_enter Ybdv.func13, Ybdv.ntmps13
  go_wp2_with (
    at_make
    refine wpList_make_full _ rfl (.tmp 14) (.tmp 14) 63 rfl W.heap.size 4 i4 _ 1 Ybdv.underlying63 hi4 h40 h41 .i64 .i64 _ _ n rfl rfl rfl rfl ?_ ?_ ?_ ?_
    · rw [h42]; omega
    · unfold maxLen; omega
    · omega)
  intro w1 ho1 hG1
  have lT : W.heap.size < w1.heap.size := (World.ownsRow.lt ho1 _ rfl).2
  go_wp2_with (
    at_make
    refine wpList_make_own _ rfl (.const (.int .i64 0)) (.tmp 16) 39 rfl W.heap.size 3 i3 _ 1 Ybdv.underlying39 hi3 h30 h31 .i64 .i64 _ n rfl rfl rfl ?_ ?_ ?_ ?_
    · rw [h32]; omega
    · unfold maxLen; omega
    · omega)
  intro w2 ho2 hG2
  have l2 := hG2.size
  have lO : w1.heap.size < w2.heap.size := (World.ownsRow.lt ho2 _ rfl).2
  have hP : ModSt W w2 n w1.heap.size W.heap.size (peelN n es 0) := by
    refine ⟨ho2, ?_, (below_grow hG1).trans ((below_grow hG2).mono (by omega)), lO, by omega⟩
    have e1 : (tab n fun u => Value.bool (inO (peelN n es 0) (u : Int))) = (madeCells #[Value.bool false] n).toList := by
      rw [toList_madeCells_one, ← tab_const]
      simp [peelN, inO_nil]
    rw [e1]; exact ho1.kept hG2 (.inr (by simp [Value.ownBlock]))
  generalize hO : w1.heap.size = O at *
  clear ho1 ho2 hG1 hG2 hO
  go_wp2
  go_loopw [7, 8] (fun vo i wr => ∃ k : Nat, k ≤ n ∧ i = .int .i64 k ∧ Hid ((peelN n es k).length = k) ∧ vo = .slice (some ⟨O, 0, none⟩) k n ∧ ModSt W wr n O W.heap.size (peelN n es k))
    (fun _ i _ => n - (intOf i).toNat)
  case atStart => exact ⟨0, Nat.zero_le _, rfl, show _ = _ from rfl, rfl, hP⟩
  case round =>
    obtain ⟨k, hk, rfl, HK, rfl, hS⟩ := hrel
    rename World => wq
    by_cases hkn : k < n
    · go_wp2
      go_loopw [9, 10] (fun p i wr => ∃ v : Nat, v ≤ n ∧ i = .int .i64 v ∧ ModSt W wr n O W.heap.size (peelN n es k) ∧
          ((p = .int .i64 (-1) ∧ Hid (scanV (fun v => freeV es (peelN n es k) (v : Int)) (n - v) v = nextV n es (peelN n es k))) ∨ (p = .int .i64 (nextV n es (peelN n es k)) ∧ nextV n es (peelN n es k) < n)))
        (fun _ i _ => n - (intOf i).toNat)
      case atStart => exact ⟨0, Nat.zero_le _, rfl, hS, .inl ⟨rfl, show _ = _ from rfl⟩⟩
      case round =>
        clear hS
        obtain ⟨v, hv, rfl, hS, hway⟩ := hrel
        rename World => wv
        have iv0 : (0 : Int) ≤ (v : Int) := by omega
        have lq := hS.bel.size
        have szT := hS.szT
        rcases hway with ⟨rfl, HV⟩ | ⟨rfl, hnx⟩
        · by_cases hvn : v < n
          · have ivn : (v : Int) < (n : Int) := by omega
            have t1 := tab_cell hS.taks v hvn
            cases hio : inO (peelN n es k) (v : Int)
            · rw [hio] at t1
              go_wp2
              go_loopw [11, 38] (fun f i wr => ∃ j : Nat, j ≤ es.length ∧ i = .int .i64 j ∧ f = .bool true ∧ ModSt W wr n O W.heap.size (peelN n es k) ∧ Hid (degO (es.take j) (peelN n es k) (v : Int) = 0))
                (fun _ i _ => es.length - (intOf i).toNat)
              case atStart => exact ⟨0, Nat.zero_le _, rfl, rfl, hS, show _ = _ by simp [degO]⟩
              case round =>
                clear hS lq szT t1
                obtain ⟨j, hj, rfl, rfl, hS, HD⟩ := hrel
                rename World => w6
                have lq := hS.bel.size
                by_cases hlt : j < es.length
                · obtain ⟨g, rfl, hgl, q0, q1⟩ := hc j hlt
                  obtain ⟨a, b, hab, ha, hbn⟩ := in_range (hin es[j] (List.getElem_mem hlt))
                  have HT : Hid (degO (es.take (j + 1)) (peelN n es k) (v : Int) = if b = v ∧ inO (peelN n es k) (a : Int) = false then 1 else 0) := by
                    show _ = _
                    rw [List.take_succ_eq_append_getElem hlt, degO_snocE, hab, HD.out]
                    by_cases hub : b = v ∧ inO (peelN n es k) (a : Int) = false
                    · rw [if_pos hub, if_pos ⟨by rw [hub.1], hub.2⟩]
                    · rw [if_neg hub, if_neg (fun h' => hub ⟨by have := h'.1; simp at this; omega, h'.2⟩)]
                  rw [hab] at q0 q1
                  have k0 : w6.cell? ⟨g, j * 2, none⟩ = some (.int .i64 a) := (hS.bel.cell (p := ⟨g, j * 2, none⟩) hgl).trans q0
                  have k1 : w6.cell? ⟨g, j * 2 + 1, none⟩ = some (.int .i64 b) := (hS.bel.cell (p := ⟨g, j * 2 + 1, none⟩) hgl).trans q1
                  have ta := tab_cell hS.taks a ha
                  have szT := hS.szT
                  have ia : (a : Int) < (n : Int) := by omega
                  clear q0 q1 hab
                  by_cases hbv : b = v
                  · have hbv' : ((b : Int) == (v : Int)) = true := by rw [beq_iff_eq]; omega
                    cases hia : inO (peelN n es k) (a : Int)
                    · rw [hia] at ta
                      have HF : Hid (freeV es (peelN n es k) (v : Int) = false) := by
                        show _ = _
                        have h1 : degO es (peelN n es k) (v : Int) ≠ 0 := by
                          intro h0
                          rw [degO_zero] at h0
                          have h2 := HT.out
                          rw [if_pos ⟨hbv, hia⟩] at h2
                          have h3 : degO (es.take (j + 1)) (peelN n es k) (v : Int) = 0 := by
                            rw [degO_zero]; exact fun e he => h0 e (List.mem_of_mem_take he)
                          omega
                        simp [freeV, h1]
                      subst hbv
                      go_wp2
                      go_roundw
                      case rel =>
                        refine ⟨b + 1, by omega, by go_num, hS.alloc lq _, .inl ⟨rfl, ?_⟩⟩
                        show _ = _
                        rw [← HV.out]; exact (scanV_no _ _ _ hvn HF.out).symm
                      case measure => simp [intOf]; omega
                    · rw [hia] at ta
                      have HT' : Hid (degO (es.take (j + 1)) (peelN n es k) (v : Int) = 0) := by
                        show _ = _
                        rw [HT.out, if_neg (fun h' => by rw [hia] at h'; cases h'.2)]
                      clear HT
                      subst hbv
                      go_wp2
                      go_roundw
                      case rel => exact ⟨j + 1, by omega, by go_num, rfl, hS.alloc lq _, HT'⟩
                      case measure => simp [intOf]; omega
                  · have hbv' : ((b : Int) == (v : Int)) = false := by rw [beq_eq_false_iff_ne]; omega
                    have HT' : Hid (degO (es.take (j + 1)) (peelN n es k) (v : Int) = 0) := by
                      show _ = _
                      rw [HT.out, if_neg (fun h' => hbv h'.1)]
                    clear HT
                    go_wp2
                    go_roundw
                    case rel => exact ⟨j + 1, by omega, by go_num, rfl, hS.alloc lq _, HT'⟩
                    case measure => simp [intOf]; omega
                · have HN : Hid (nextV n es (peelN n es k) = v) := by
                    show _ = _
                    have h1 := HD.out
                    rw [List.take_of_length_le (by omega)] at h1
                    rw [← HV.out]; exact scanV_yes _ _ _ hvn (by simp [freeV, hio, h1])
                  clear HD HV
                  go_wp2
                  go_roundw
                  case rel => exact ⟨v + 1, by omega, by go_num, hS, .inr ⟨by rw [HN.out], by rw [HN.out]; exact hvn⟩⟩
                  case measure => simp [intOf]; omega
            · rw [hio] at t1
              have HV' : Hid (scanV (fun v => freeV es (peelN n es k) (v : Int)) (n - (v + 1)) (v + 1) = nextV n es (peelN n es k)) := by
                show _ = _
                rw [← HV.out]; exact (scanV_no _ _ _ hvn (by simp [freeV, hio])).symm
              go_wp2
              go_roundw
              case rel => exact ⟨v + 1, by omega, by go_num, hS, .inl ⟨rfl, HV'⟩⟩
              case measure => simp [intOf]; omega
          · have hd : decide ((v : Int) < (n : Int)) = false := by rw [decide_eq_false_iff_not]; omega
            have hd' : ¬ v < n := hvn
            have HN : Hid (nextV n es (peelN n es k) = n) := by
              show _ = _
              have hvn' : v = n := by omega
              rw [← HV.out, hvn']; exact scanV_end _ _
            go_wp2
            go_ret2
            refine ⟨.inr ⟨?_, rfl⟩, hS.bel⟩
            have := peelN_stop n es k (by rw [HN.out]; omega) (n - k)
            rw [show k + (n - k) = n by omega] at this
            rw [this, HK.out]; omega
        · generalize hx : nextV n es (peelN n es k) = x at *
          have HX := hide hx
          clear hx
          have ix0 : (0 : Int) ≤ (x : Int) := by omega
          have ixn : (x : Int) < (n : Int) := by omega
          have hxd : decide ((x : Int) < 0) = false := by rw [decide_eq_false_iff_not]; omega
          have t1 := tab_cell hS.taks x hnx
          have t3 := tab_free hS.taks x
          have hO : wv.ownsRow W.heap.size 3 1 (.slice (some ⟨O, 0, none⟩) k n) k ((peelN n es k).map (Value.int .i64)) := by
            have := hS.ords; rw [HK.out] at this; exact this
          have hOs := ownsRow_setCell_other hO (a := ⟨W.heap.size, x, none⟩) (by simp [Value.ownBlock]; omega) (.bool true)
          have HP1 : Hid (peelN n es (k + 1) = peelN n es k ++ [(x : Int)]) := by
            show _ = _
            rw [peelN_succ n es k (by rw [HX.out]; exact hnx), HX.out]
          by_cases hvn : v < n
          all_goals
            go_wp2_with (
              at_builtin
              refine wpList_append_fits _ rfl (.tmp 62) (.tmp 64) 39 rfl W.heap.size 3 i3 1 Ybdv.underlying39 hi3 h31 O k n _ rfl (hOs.alloc _) ⟨wv.heap.size, 0, none⟩ 1 1 [.int .i64 (x : Int)] rfl rfl ?_ ?_ ?_ ?_
              · exact news_one (by simp) _ _
              · exact ints_oneCell .i64 [(x : Int)]
              · omega)
            intro w5 ho5 hG5
            have hS5 : ModSt W w5 n O W.heap.size (peelN n es k ++ [(x : Int)]) :=
              hS.taken (by omega) (by omega) (by omega) lq x _ hG5 (by rw [HK.out]; exact ho5)
            clear hS hO hOs ho5 hG5 t1 t3
            go_wp2
            go_roundw
            case rel =>
              refine ⟨k + 1, by omega, by go_num, ?_, rfl, by rw [HP1.out]; exact hS5⟩
              show _ = _
              rw [HP1.out, List.length_append, HK.out]; rfl
            case measure => simp [intOf]; omega
    · have hkn' : k = n := by omega
      subst hkn'
      go_wp2
      go_ret2
      refine ⟨.inl ⟨HK.out, O, rfl, ?_⟩, hS.bel⟩
      have := hS.ords
      rw [HK.out] at this
      exact this

end Go.Proofs.Ymwhbd
