import Derived.Test.YmwhbdF
import Derived.Test.YmwhbdPeelP
import Derived.Deep.DeepCutAuto
import Derived.Deep.LoopGhost
namespace Go.Proofs.Ymwhbd
open Go.RowKit
set_option linter.unusedSimpArgs false
set_option linter.unusedVariables false

theorem Ybdv.info3 : (Ybdv.prog.info? 3).map (fun i => (i.zero, i.size, i.bytes)) = some (some (.int .i64 0), 1, 8) := by kernel_rfl
theorem Ybdv.info4 : (Ybdv.prog.info? 4).map (fun i => (i.zero, i.size, i.bytes)) = some (some (.bool false), 1, 1) := by kernel_rfl

/-- A table behind a slice: entry i's cell; it may be written; what is behind a store. -/
theorem tab_cell {w : World} {base : Nat} {e : TypeId} {g n cap : Nat} {f : Nat → Value} (h : w.ownsRow base e 1 (.slice (some ⟨g, 0, none⟩) n cap) n (tab n f)) (i : Nat) (hi : i < n) : w.cell? ⟨g, i, none⟩ = some (f i) := by
  rw [World.ownsRow.cellAt h i (by omega)]; exact tab_get n f i hi
theorem tab_free {w : World} {base : Nat} {e : TypeId} {g n cap : Nat} {xs : List Value} (h : w.ownsRow base e 1 (.slice (some ⟨g, 0, none⟩) n cap) n xs) (i : Nat) : w.frozen? ⟨g, i, none⟩ = false := World.ownsRow.frozenAt h i
theorem tab_stored {w : World} {base : Nat} {e : TypeId} {g n cap : Nat} {f : Nat → Value} (h : w.ownsRow base e 1 (.slice (some ⟨g, 0, none⟩) n cap) n (tab n f)) (u : Nat) (x : Value) {f' : Nat → Value} (hf : ∀ i, i < n → f' i = if i = u then x else f i) :
    (w.setCell ⟨g, u, none⟩ x).ownsRow base e 1 (.slice (some ⟨g, 0, none⟩) n cap) n (tab n f') := by
  have := (World.ownsRow.stored h u x).1
  rw [tab_set] at this
  rwa [tab_congr n f' _ hf]

theorem in_range {n : Nat} {e : Int × Int} (h : inR (n : Int) e.1 e.2 = true) : ∃ a b : Nat, e = ((a : Int), (b : Int)) ∧ a < n ∧ b < n := by
  simp [inR] at h
  exact ⟨e.1.toNat, e.2.toNat, by ext <;> simp <;> omega, by omega, by omega⟩

/-- The one element that an append lays in a block of its own. -/
theorem news_one {w : World} {B : Nat} (hB : B = w.heap.size) (x : Value) (t : TypeId) : ∀ j u, [x][j]? = some u → (w.alloc (.cells #[x] t)).cell? ((⟨B, 0, none⟩ : Addr).add j) = some u := by
  intro j u hj
  subst hB
  rw [Addr.add_lit]
  match j, hj with
  | 0, hj => simp at hj; subst hj; simp

theorem ret_sl {a a' : Nat} {x : Value} {ad : Option Addr} {c : Nat} (h : a = a') : Ending.returned (.tuple #[.slice ad a c, x]) = .returned (.tuple #[.slice ad a' c, x]) := by rw [h]

/-- What memory holds in the midst of peeling: the degrees F, the order so far, the marks of what is taken. -/
structure PeelSt (W wr : World) (n D O T : Nat) (ord : List Int) (F : Nat → Int) : Prop where
  degs : wr.ownsRow W.heap.size 3 1 (.slice (some ⟨D, 0, none⟩) n n) n (tab n fun u => .int .i64 (F u))
  ords : wr.ownsRow W.heap.size 3 1 (.slice (some ⟨O, 0, none⟩) ord.length n) ord.length (ord.map (Value.int .i64))
  taks : wr.ownsRow W.heap.size 4 1 (.slice (some ⟨T, 0, none⟩) n n) n (tab n fun u => .bool (inO ord (u : Int)))
  bel : Below W.heap.size W wr
  szD : D < wr.heap.size
  szO : O < wr.heap.size
  szT : T < wr.heap.size

theorem PeelSt.alloc {W wr : World} {n D O T : Nat} {ord : List Int} {F : Nat → Int} (h : PeelSt W wr n D O T ord F) (hz : W.heap.size ≤ wr.heap.size) (o : Obj) : PeelSt W (wr.alloc o) n D O T ord F :=
  ⟨h.degs.alloc _, h.ords.alloc _, h.taks.alloc _, h.bel.alloc hz _, by have := h.szD; simp; omega, by have := h.szO; simp; omega, by have := h.szT; simp; omega⟩

theorem PeelSt.setDeg {W wr : World} {n D O T : Nat} {ord : List Int} {F F' : Nat → Int} (h : PeelSt W wr n D O T ord F) (hDO : D ≠ O) (hDT : D ≠ T) (hWD : W.heap.size ≤ D) (u : Nat) (x : Int)
    (hF : ∀ i, i < n → F' i = if i = u then x else F i) : PeelSt W (wr.setCell ⟨D, u, none⟩ (.int .i64 x)) n D O T ord F' := by
  refine ⟨tab_stored h.degs u _ fun i hi => ?_, ownsRow_setCell_other h.ords (by simp [Value.ownBlock]; omega) _, ownsRow_setCell_other h.taks (by simp [Value.ownBlock]; omega) _, h.bel.setCell hWD _, by simpa using h.szD, by simpa using h.szO, by simpa using h.szT⟩
  rw [hF i hi]; split <;> rfl

theorem PeelSt.taken {W wq w5 : World} {n D O T : Nat} {ord : List Int} {F : Nat → Int} (h : PeelSt W wq n D O T ord F) (hDO : D ≠ O) (hDT : D ≠ T) (hOT : O ≠ T) (hWO : W.heap.size ≤ O) (hWT : W.heap.size ≤ T) (hz : W.heap.size ≤ wq.heap.size) (v : Nat) (o : Obj)
    (hG : ((wq.setCell ⟨T, v, none⟩ (.bool true)).alloc o).grownBy w5 (some O))
    (ho5 : w5.ownsRow W.heap.size 3 1 (.slice (some ⟨O, 0, none⟩) (ord.length + 1) n) (ord.length + 1) (ord.map (Value.int .i64) ++ [.int .i64 (v : Int)])) :
    PeelSt W w5 n D O T (ord ++ [(v : Int)]) F := by
  have l5 := hG.size
  simp at l5
  have hD := h.szD
  have hO := h.szO
  have hT := h.szT
  refine ⟨?_, ?_, ?_, ?_, by omega, by omega, by omega⟩
  · exact ((ownsRow_setCell_other h.degs (by simp [Value.ownBlock]; omega) _).alloc _).kept hG (.inr (by simp [Value.ownBlock]; omega))
  · simpa using ho5
  · refine World.ownsRow.kept (World.ownsRow.alloc (tab_stored h.taks v (.bool true) fun i hi => ?_) _) hG (.inr (by simp [Value.ownBlock]; omega))
    rw [inO_snoc]
    by_cases hiv : i = v
    · simp [hiv]
    · rw [if_neg hiv, show decide ((i : Int) = (v : Int)) = false by rw [decide_eq_false_iff_not]; omega]; simp
  · exact ((h.bel.setCell hWT _).alloc (by simp; omega) _).grown hG (by simp; omega) (by simp; omega)

set_option maxHeartbeats 1000000 in
set_option maxRecDepth 100000 in
theorem peel_any (n : Nat) (hn : n ≤ 4096) {base : Nat} {v : Value} {es : List (Int × Int)} (hlen : es.length ≤ 100000) (hin : ∀ e ∈ es, inR (n : Int) e.1 e.2 = true) (gb : Nat) (W : World)
    (hg : W.heap[gb]? = some (.cells #[.int .i64 (n : Int), v] 31 (0, 0))) (h : EsIn base W v es) :
    Calls Ybdv.prog 23 #[.pointer (some ⟨gb, 0, none⟩)] W fun e w' => ∃ O T : Nat, e = .returned (.tuple #[.slice (some ⟨O, 0, none⟩) (peelN n es n).length n, .slice (some ⟨T, 0, none⟩) n n]) ∧
      w'.ownsRow W.heap.size 3 1 (.slice (some ⟨O, 0, none⟩) (peelN n es n).length n) (peelN n es n).length ((peelN n es n).map (Value.int .i64)) ∧
      w'.ownsRow W.heap.size 4 1 (.slice (some ⟨T, 0, none⟩) n n) n (tab n fun u => .bool (inO (peelN n es n) (u : Int))) ∧ Below W.heap.size W w' := by
  have c0 := gr_cell0 hg
  have c1 := gr_cell1 hg
  have zg := lt_of_block hg
  obtain ⟨ao, cap, rfl, _, _, hc⟩ := h.form
  obtain ⟨i3, hi3, h30, h31, h32⟩ := info_parts Ybdv.info3
  obtain ⟨i4, hi4, h40, h41, h42⟩ := info_parts Ybdv.info4
  clear hg h
  go_enter Ybdv.func23, Ybdv.ntmps23
  go_wp2_with (
    at_make
    refine wpList_make_full _ rfl (.tmp 16) (.tmp 16) 39 rfl W.heap.size 3 i3 _ 1 Ybdv.underlying39 hi3 h30 h31 .i64 .i64 _ _ n rfl rfl rfl rfl ?_ ?_ ?_ ?_
    · rw [h32]; omega
    · unfold maxLen; omega
    · omega)
  intro w1 ho1 hG1
  have hb1 := below_grow hG1
  have e1 : w1.cell? ⟨gb, 1, none⟩ = some (.slice ao es.length cap) := (hb1.cell (p := ⟨gb, 1, none⟩) zg).trans c1
  go_wp2
  go_loopw [23] (fun i wr => ∃ k : Nat, k ≤ es.length ∧ i = .int .i64 k ∧ wr.ownsRow W.heap.size 3 1 (.slice (some ⟨W.heap.size, 0, none⟩) n n) n (tab n fun u => .int .i64 (degO (es.take k) [] (u : Int))) ∧ Below W.heap.size W wr)
    (fun i _ => es.length - (intOf i).toNat)
  case atStart =>
    refine ⟨0, Nat.zero_le _, rfl, ?_, hb1⟩
    have : (tab n fun u => Value.int .i64 (degO (es.take 0) [] (u : Int))) = (madeCells #[Value.int .i64 0] n).toList := by
      rw [toList_madeCells_one, ← tab_const]
      simp [degO]
    rw [this]; exact ho1
  case round =>
    obtain ⟨k, hk, rfl, ho, hb⟩ := hrel
    have lD : W.heap.size < wr.heap.size := (World.ownsRow.lt ho _ rfl).2
    by_cases hlt : k < es.length
    · obtain ⟨g, rfl, hgl, q0, q1⟩ := hc k hlt
      obtain ⟨a, b, hab, ha, hbn⟩ := in_range (hin es[k] (List.getElem_mem hlt))
      have HT : Hid (∀ u : Nat, degO (es.take (k + 1)) [] (u : Int) = if u = b then degO (es.take k) [] (b : Int) + 1 else degO (es.take k) [] (u : Int)) := by
        intro u
        rw [List.take_succ_eq_append_getElem hlt, degO_snocE, hab]
        simp only [inO_nil, and_true]
        by_cases hub : u = b
        · subst hub; simp
        · rw [if_neg (by omega), if_neg hub]; rfl
      rw [hab] at q0 q1
      have k0 : wr.cell? ⟨g, k * 2, none⟩ = some (.int .i64 a) := (hb.cell (p := ⟨g, k * 2, none⟩) hgl).trans q0
      have k1 : wr.cell? ⟨g, k * 2 + 1, none⟩ = some (.int .i64 b) := (hb.cell (p := ⟨g, k * 2 + 1, none⟩) hgl).trans q1
      have kd := tab_cell ho b hbn
      have kf := tab_free ho b
      have hdl := degO_le (es.take k) [] (b : Int)
      have hdl2 : (es.take k).length ≤ 100000 := by simp; omega
      have ib : (b : Int) < (n : Int) := by omega
      generalize degO (es.take k) [] (b : Int) = d at *
      clear q0 q1 hab
      go_wp2
      go_roundw
      case rel =>
        refine ⟨k + 1, by omega, by go_num, ?_, (hb.setCell (Nat.le_refl _) _).alloc (by simp; omega) _⟩
        refine (tab_stored ho b _ fun u hu => ?_).alloc _
        rw [HT.out u]
        by_cases hub : u = b
        · simp [hub]
        · simp [hub]
      case measure => simp [intOf]; omega
    · have hkl : k = es.length := by omega
      rw [hkl, List.take_of_length_le (Nat.le_refl _)] at ho
      have e0 : wr.cell? ⟨gb, 0, none⟩ = some (.int .i64 (n : Int)) := (hb.cell (p := ⟨gb, 0, none⟩) zg).trans c0
      clear hkl hk ho1 hG1 hb1 e1
      go_wp2_with (
        at_make
        refine wpList_make_own _ rfl (.const (.int .i64 0)) (.tmp 38) 39 rfl W.heap.size 3 i3 _ 1 Ybdv.underlying39 hi3 h30 h31 .i64 .i64 _ n rfl rfl rfl ?_ ?_ ?_ ?_
        · rw [h32]; omega
        · unfold maxLen; omega
        · omega)
      intro w2 ho2 hG2
      have hb2 := below_grow hG2
      have f0 : w2.cell? ⟨gb, 0, none⟩ = some (.int .i64 (n : Int)) := (hb2.cell (p := ⟨gb, 0, none⟩) (by show gb < wr.heap.size; omega)).trans e0
      have l2 := hG2.size
      have lO := (World.ownsRow.lt ho2 _ rfl).2
      go_wp2_with (
        at_make
        refine wpList_make_full _ rfl (.tmp 43) (.tmp 43) 63 rfl W.heap.size 4 i4 _ 1 Ybdv.underlying63 hi4 h40 h41 .i64 .i64 _ _ n rfl rfl rfl rfl ?_ ?_ ?_ ?_
        · rw [h42]; omega
        · unfold maxLen; omega
        · omega)
      intro w3 ho3 hG3
      have l3 := hG3.size
      have lT := (World.ownsRow.lt ho3 _ rfl).2
      have hB3 : Below W.heap.size W w3 := (hb.trans (hb2.mono (by omega))).trans ((below_grow hG3).mono (by omega))
      have hD3 := (ho.kept hG2 (.inr (by simp [Value.ownBlock]))).kept hG3 (.inr (by simp [Value.ownBlock]))
      have hO3 := ho2.kept hG3 (.inr (by simp [Value.ownBlock]))
      have hT3 : w3.ownsRow W.heap.size 4 1 (.slice (some ⟨w2.heap.size, 0, none⟩) n n) n (tab n fun u => .bool (inO (peelN n es 0) (u : Int))) := by
        have : (tab n fun u => Value.bool (inO (peelN n es 0) (u : Int))) = (madeCells #[Value.bool false] n).toList := by
          rw [toList_madeCells_one, ← tab_const]
          simp [peelN, inO_nil]
        rw [this]; exact ho3
      generalize hO : wr.heap.size = O at *
      generalize hT : w2.heap.size = T at *
      have lOT : O < T := lO
      clear ho ho2 ho3 hG2 hG3 hb2 f0 e0 hb hO hT
      have hP : PeelSt W w3 n W.heap.size O T (peelN n es 0) (fun u => (degO es (peelN n es 0) (u : Int) : Int)) := ⟨hD3, hO3, hT3, hB3, by omega, by omega, by omega⟩
      clear hD3 hO3 hT3 hB3
      go_wp2
      go_loopw [7, 9] (fun vo i wq => ∃ k : Nat, k ≤ n ∧ i = .int .i64 k ∧ Hid ((peelN n es k).length = k) ∧ vo = .slice (some ⟨O, 0, none⟩) k n ∧ PeelSt W wq n W.heap.size O T (peelN n es k) (fun u => (degO es (peelN n es k) (u : Int) : Int)))
        (fun _ i _ => n - (intOf i).toNat)
      case atStart => exact ⟨0, Nat.zero_le _, rfl, show _ = _ from rfl, rfl, hP⟩
      case round =>
        obtain ⟨k, hk, rfl, HK, rfl, hS⟩ := hrel
        rename World => wq
        have g0 : wq.cell? ⟨gb, 0, none⟩ = some (.int .i64 (n : Int)) := (hS.bel.cell (p := ⟨gb, 0, none⟩) zg).trans c0
        have g1 : wq.cell? ⟨gb, 1, none⟩ = some (.slice ao es.length cap) := (hS.bel.cell (p := ⟨gb, 1, none⟩) zg).trans c1
        have lq := hS.bel.size
        by_cases hkn : k < n
        · go_wp2
          go_loop [10] (fun t => ∃ v : Nat, v ≤ n ∧ t = .int .i64 v ∧ Hid (scanV (fun v => freeV es (peelN n es k) (v : Int)) (n - v) v = nextV n es (peelN n es k))) (fun t => n - (intOf t).toNat)
          case atStart => exact ⟨0, Nat.zero_le _, rfl, show _ = _ from rfl⟩
          case round =>
            obtain ⟨v, hv, rfl, HV⟩ := hrel
            have iv0 : (0 : Int) ≤ (v : Int) := by omega
            -- the three ways of the search
            have hways : (v < n ∧ ((inO (peelN n es k) (v : Int) = true ∧ freeV es (peelN n es k) (v : Int) = false) ∨ (inO (peelN n es k) (v : Int) = false ∧ (((degO es (peelN n es k) (v : Int) : Nat) : Int) != 0) = true ∧ freeV es (peelN n es k) (v : Int) = false))) ∨
                (Hid (nextV n es (peelN n es k) = v) ∧ ((v < n ∧ inO (peelN n es k) (v : Int) = false ∧ (((degO es (peelN n es k) (v : Int) : Nat) : Int) != 0) = false) ∨ v = n)) := by
              by_cases hvn : v < n
              · cases h1 : inO (peelN n es k) (v : Int)
                · by_cases h2 : degO es (peelN n es k) (v : Int) = 0
                  · refine .inr ⟨?_, .inl ⟨hvn, rfl, by simp [h2]⟩⟩
                    show _ = _
                    rw [← HV.out]; exact scanV_yes _ _ _ hvn (by simp [freeV, h1, h2])
                  · exact .inl ⟨hvn, .inr ⟨rfl, by rw [bne_iff_ne]; omega, by simp [freeV, h2]⟩⟩
                · exact .inl ⟨hvn, .inl ⟨rfl, by simp [freeV, h1]⟩⟩
              · have hvn' : v = n := by omega
                refine .inr ⟨?_, .inr hvn'⟩
                show _ = _
                rw [← HV.out, hvn']; exact scanV_end _ _
            rcases hways with ⟨hvn, hway⟩ | ⟨HN, hway⟩
            · have t1 := tab_cell hS.taks v hvn
              have t2 := tab_cell hS.degs v hvn
              have ivn : (v : Int) < (n : Int) := by omega
              rcases hway with ⟨hw1, hw2⟩ | ⟨hw1, hw3, hw2⟩
              all_goals
                have HV' : Hid (scanV (fun v => freeV es (peelN n es k) (v : Int)) (n - (v + 1)) (v + 1) = nextV n es (peelN n es k)) := by
                  show _ = _
                  rw [← HV.out]; exact (scanV_no _ _ _ hvn hw2).symm
                clear HV hw2
                go_wp2
                go_round
                case rel => exact ⟨v + 1, by omega, by go_num, HV'⟩
                case measure => simp [intOf]; omega
            · rcases hway with ⟨hvn, hw1, hw3⟩ | hvn
              · have t1 := tab_cell hS.taks v hvn
                have t2 := tab_cell hS.degs v hvn
                have t3 := tab_free hS.taks v
                have ivn : (v : Int) < (n : Int) := by omega
                have hd2 : ((v : Int) == (n : Int)) = false := by rw [beq_eq_false_iff_ne]; omega
                have hO : wq.ownsRow W.heap.size 3 1 (.slice (some ⟨O, 0, none⟩) k n) k ((peelN n es k).map (Value.int .i64)) := by
                  have := hS.ords; rw [HK.out] at this; exact this
                have hOs := ownsRow_setCell_other hO (a := ⟨T, v, none⟩) (by simp [Value.ownBlock]; omega) (.bool true)
                have HP1 : Hid (peelN n es (k + 1) = peelN n es k ++ [(v : Int)]) := by
                  show _ = _
                  rw [peelN_succ n es k (by rw [HN.out]; exact hvn), HN.out]
                clear HV HN
                go_wp2_with (
                  at_builtin
                  refine wpList_append_fits _ rfl (.tmp 83) (.tmp 85) 39 rfl W.heap.size 3 i3 1 Ybdv.underlying39 hi3 h31 O k n _ rfl (hOs.alloc _) ⟨wq.heap.size, 0, none⟩ 1 1 [.int .i64 (v : Int)] rfl rfl ?_ ?_ ?_ ?_
                  · exact news_one (by simp) _ _
                  · exact ints_oneCell .i64 [(v : Int)]
                  · omega)
                intro w5 ho5 hG5
                have hS5 : PeelSt W w5 n W.heap.size O T (peelN n es k ++ [(v : Int)]) (fun u => (degO es (peelN n es k) (u : Int) : Int)) :=
                  hS.taken (by omega) (by omega) (by omega) (by omega) (by omega) lq v _ hG5 (by rw [HK.out]; exact ho5)
                have g5 : w5.cell? ⟨gb, 1, none⟩ = some (.slice ao es.length cap) := (hS5.bel.cell (p := ⟨gb, 1, none⟩) zg).trans c1
                clear hS hO hOs ho5 hG5 t1 t2 t3 g0 g1 lq hw3
                go_wp2
                go_loopw [92] (fun i wr => ∃ j : Nat, j ≤ es.length ∧ i = .int .i64 j ∧ PeelSt W wr n W.heap.size O T (peelN n es k ++ [(v : Int)]) (fun u => (degO es (peelN n es k) (u : Int) : Int) - (cntE (es.take j) (v : Int) (u : Int) : Int)))
                  (fun i _ => es.length - (intOf i).toNat)
                case atStart => exact ⟨0, Nat.zero_le _, rfl, by simpa [cntE] using hS5⟩
                case round =>
                  obtain ⟨j, hj, rfl, hS⟩ := hrel
                  rename World => w6
                  have lq := hS.bel.size
                  have szD := hS.szD
                  by_cases hlt : j < es.length
                  · obtain ⟨g, rfl, hgl, q0, q1⟩ := hc j hlt
                    obtain ⟨a, b, hab, ha, hbn⟩ := in_range (hin es[j] (List.getElem_mem hlt))
                    have HT : Hid (∀ u : Nat, (cntE (es.take (j + 1)) (v : Int) (u : Int) : Int) = (cntE (es.take j) (v : Int) (u : Int) : Int) + if u = b ∧ a = v then 1 else 0) := by
                      intro u
                      rw [List.take_succ_eq_append_getElem hlt, cntE_snocE, hab]
                      by_cases hub : u = b ∧ a = v
                      · rw [if_pos hub, if_pos ⟨by rw [hub.1], by rw [hub.2]⟩]; omega
                      · rw [if_neg hub, if_neg (fun h' => hub ⟨by have := h'.1; simp at this; omega, by have := h'.2; simp at this; omega⟩)]; omega
                    rw [hab] at q0 q1
                    have k0 : w6.cell? ⟨g, j * 2, none⟩ = some (.int .i64 a) := (hS.bel.cell (p := ⟨g, j * 2, none⟩) hgl).trans q0
                    have k1 : w6.cell? ⟨g, j * 2 + 1, none⟩ = some (.int .i64 b) := (hS.bel.cell (p := ⟨g, j * 2 + 1, none⟩) hgl).trans q1
                    have kd := tab_cell hS.degs b hbn
                    have kf := tab_free hS.degs b
                    have hd1 := degO_le es (peelN n es k) (b : Int)
                    have hd2' := cntE_le (es.take j) (v : Int) (b : Int)
                    have hd3 : (es.take j).length ≤ 100000 := by simp; omega
                    have ib : (b : Int) < (n : Int) := by omega
                    clear q0 q1 hab
                    by_cases hav : a = v
                    · have hav' : ((a : Int) == (v : Int)) = true := by rw [beq_iff_eq]; omega
                      subst hav
                      go_wp2
                      go_roundw
                      case rel =>
                        refine ⟨j + 1, by omega, by go_num, ?_⟩
                        refine (hS.setDeg (by omega) (by omega) (Nat.le_refl _) b _ fun i hi => ?_).alloc (by simp; omega) _
                        rw [HT.out i]
                        by_cases hib : i = b
                        · subst hib; simp; omega
                        · simp [hib]
                      case measure => simp [intOf]; omega
                    · have hav' : ((a : Int) == (v : Int)) = false := by rw [beq_eq_false_iff_ne]; omega
                      go_wp2
                      go_roundw
                      case rel =>
                        refine ⟨j + 1, by omega, by go_num, ?_⟩
                        have hF : (fun u : Nat => (degO es (peelN n es k) (u : Int) : Int) - (cntE (es.take (j + 1)) (v : Int) (u : Int) : Int)) = (fun u : Nat => (degO es (peelN n es k) (u : Int) : Int) - (cntE (es.take j) (v : Int) (u : Int) : Int)) := by
                          funext u
                          rw [HT.out u, if_neg (fun h' => hav h'.2)]; omega
                        rw [hF]
                        exact hS.alloc lq _
                      case measure => simp [intOf]; omega
                  · go_wp2
                    go_roundw
                    case rel =>
                      have hje : es.take j = es := List.take_of_length_le (by omega)
                      refine ⟨k + 1, by omega, by go_num, ?_, rfl, ?_⟩
                      · show _ = _
                        rw [HP1.out, List.length_append, HK.out]; rfl
                      · have hF : (fun u : Nat => (degO es (peelN n es (k + 1)) (u : Int) : Int)) = (fun u : Nat => (degO es (peelN n es k) (u : Int) : Int) - (cntE (es.take j) (v : Int) (u : Int) : Int)) := by
                          funext u
                          rw [HP1.out, hje]
                          have := degO_snoc es (peelN n es k) (v : Int) hw1 (u : Int)
                          omega
                        rw [hF, HP1.out]
                        exact hS
                    case measure => simp [intOf]; omega
              · have hd : decide ((v : Int) < (n : Int)) = false := by rw [decide_eq_false_iff_not]; omega
                have hd' : ¬ v < n := by omega
                have hd2 : ((v : Int) == (n : Int)) = true := by rw [beq_iff_eq]; omega
                have HE : Hid (peelN n es n = peelN n es k) := by
                  show _ = _
                  have := peelN_stop n es k (by rw [HN.out]; omega) (n - k)
                  rwa [show k + (n - k) = n by omega] at this
                clear HV HN hvn
                go_wp2
                go_ret2
                refine ⟨O, T, ret_sl (by rw [HE.out, HK.out]), ?_, ?_, hS.bel⟩
                · rw [HE.out]; exact hS.ords
                · rw [HE.out]; exact hS.taks
        · have hkn' : k = n := by omega
          subst hkn'
          go_wp2
          go_ret2
          exact ⟨O, T, ret_sl (by rw [HK.out]), hS.ords, hS.taks, hS.bel⟩

end Go.Proofs.Ymwhbd
