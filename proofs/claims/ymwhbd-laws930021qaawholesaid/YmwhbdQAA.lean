import Derived.Test.YmwhbdDF
import Derived.Test.YmwhbdRem
import Derived.Test.YmwhbdIdx
import Derived.Test.YmwhbdCopy
import Derived.Test.YmwhbdOpen3
import Derived.Deep.DeepCutAuto
import Derived.Deep.LoopGhost
namespace Go.Proofs.Ymwhbd
open Go.RowKit
set_option linter.unusedSimpArgs false
set_option linter.unusedVariables false

theorem EsIn.notGraph {base gb : Nat} {w : World} {v : Value} {es : List (Int × Int)} {c : Array Value} (h : EsIn base w v es) (hg : w.heap[gb]? = some (.cells c 31 (0, 0))) : v.ownBlock ≠ some gb := by
  intro he
  rcases h.2 with ⟨rfl, _⟩ | ⟨g, cap, cur, rfl, _, hgg, _⟩
  · simp [Value.ownBlock] at he
  · simp [Value.ownBlock] at he
    subst he
    rw [hgg] at hg
    simp at hg

/-- What holds at each round of the script: the graph's edges G and the model M have the same members. -/
def QaaSt (W wr : World) (gb : Nat) (n : Int) (mv : Value) (k : Nat) : Prop := ∃ (ev : Value) (G M : List (Int × Int)), wr.heap[gb]? = some (.cells #[.int .i64 n, ev] 31 (0, 0)) ∧ EsIn W.heap.size wr ev G ∧ EsIn W.heap.size wr mv M ∧
  SortedE G ∧ M.Nodup ∧ (∀ x, x ∈ M ↔ x ∈ G) ∧ G.length ≤ k ∧ M.length ≤ k ∧ (∀ j, ev.ownBlock = some j → mv.ownBlock ≠ some j) ∧ Below W.heap.size W wr

theorem qaa_step {W W1 w2 : World} {gb k : Nat} {n : Int} {mv ev ev' : Value} {G' M : List (Int × Int)} (hg1 : W1.heap[gb]? = some (.cells #[.int .i64 n, ev] 31 (0, 0))) (hM1 : EsIn W.heap.size W1 mv M)
    (hG2 : W1.grownBy w2 (some gb)) (hg2 : w2.heap[gb]? = some (.cells #[.int .i64 n, ev'] 31 (0, 0))) (hE2 : EsIn W.heap.size w2 ev' G') (hs : SortedE G')
    (hfr : ev' = ev ∨ ∀ j, ev'.ownBlock = some j → W1.heap.size ≤ j) (hdis : ∀ j, ev.ownBlock = some j → mv.ownBlock ≠ some j) (hnd : M.Nodup) (hmem : ∀ x, x ∈ M ↔ x ∈ G') (hGl : G'.length ≤ k) (hMl : M.length ≤ k)
    (hb : Below W.heap.size W W1) (hz : W.heap.size ≤ W1.heap.size) (hgb : W.heap.size ≤ gb) : QaaSt W w2 gb n mv k := by
  refine ⟨ev', G', M, hg2, hE2, hM1.kept hG2 (.inr (hM1.notGraph hg1)), hs, hnd, hmem, hGl, hMl, ?_, hb.grown hG2 hz (by simp; omega)⟩
  intro j hj he
  rcases hfr with rfl | hfr
  · exact hdis j hj he
  · have h1 := hfr j hj
    have h2 := hM1.ownLt j he
    omega

theorem qaa_append {W w2 w3 : World} {gb k : Nat} {n : Int} {mv ev : Value} {G M M' : List (Int × Int)} {g l c : Nat} {o : Obj} (hg2 : w2.heap[gb]? = some (.cells #[.int .i64 n, ev] 31 (0, 0))) (hE2 : EsIn W.heap.size w2 ev G) (hM2 : EsIn W.heap.size w2 mv M)
    (hdis : ∀ j, ev.ownBlock = some j → mv.ownBlock ≠ some j) (hb : Below W.heap.size W w2) (hz : W.heap.size ≤ w2.heap.size)
    (hG3 : (w2.alloc o).grownBy w3 mv.ownBlock) (hM3 : EsIn W.heap.size w3 (.slice (some ⟨g, 0, none⟩) l c) M') (hat : mv.ownBlock = some g ∨ g = w2.heap.size + 1)
    (hs : SortedE G) (hnd : M'.Nodup) (hmem : ∀ x, x ∈ M' ↔ x ∈ G) (hGl : G.length ≤ k) (hMl : M'.length ≤ k) : QaaSt W w3 gb n (.slice (some ⟨g, 0, none⟩) l c) k := by
  have zg := lt_of_block hg2
  have hne := hM2.notGraph hg2
  refine ⟨ev, G, M', ?_, (hE2.alloc _).kept hG3 ?_, hM3, hs, hnd, hmem, hGl, hMl, ?_, (hb.alloc hz _).grown hG3 (by simp; omega) ?_⟩
  · exact (hG3.block gb (by simp; omega) (fun e => hne e.symm)).trans ((Below.heap_alloc _ _ _ zg).trans hg2)
  · cases he : ev.ownBlock with
    | none => exact .inl rfl
    | some j => exact .inr (fun e => hdis j he e.symm)
  · intro j hj
    simp only [Value.ownBlock, ne_eq, Option.some.injEq]
    intro e
    rcases hat with h | h
    · exact hdis j hj (by rw [h, e])
    · have := hE2.ownLt j hj; omega
  · intro j hj; exact (World.ownsRow.lt hM2 j hj).1

theorem qaa_drop {W w2 w3 : World} {gb k : Nat} {n : Int} {mv' ev : Value} {G M' : List (Int × Int)} (hg2 : w2.heap[gb]? = some (.cells #[.int .i64 n, ev] 31 (0, 0))) (hE2 : EsIn W.heap.size w2 ev G)
    (hb : Below W.heap.size W w2) (hz : W.heap.size ≤ w2.heap.size) (hb3 : Below w2.heap.size w2 w3) (hM3 : EsIn w2.heap.size w3 mv' M')
    (hs : SortedE G) (hnd : M'.Nodup) (hmem : ∀ x, x ∈ M' ↔ x ∈ G) (hGl : G.length ≤ k) (hMl : M'.length ≤ k) : QaaSt W w3 gb n mv' k := by
  have zg := lt_of_block hg2
  refine ⟨ev, G, M', (hb3.block gb zg).trans hg2, hE2.below' hb3, hM3.rebase ?_, hs, hnd, hmem, hGl, hMl, ?_, hb.trans (hb3.mono hz)⟩
  · intro j hj; have := (World.ownsRow.lt hM3 j hj).1; omega
  · intro j hj he
    have h1 := hE2.ownLt j hj
    have h2 := (World.ownsRow.lt hM3 j he).1
    omega

theorem mem_addE (n : Int) (G : List (Int × Int)) (a c : Int) (x : Int × Int) : x ∈ addE n G a c ↔ (inR n a c = true ∧ x = (a, c)) ∨ x ∈ G := by
  unfold addE
  by_cases h : inR n a c = true
  · rw [if_pos h, mem_insE]; simp [h]
  · rw [if_neg h]; simp [h]

theorem mem_eraseIdx_nodup {M : List (Int × Int)} (hnd : M.Nodup) {i : Nat} (hi : i < M.length) (x : Int × Int) : x ∈ M.eraseIdx i ↔ x ≠ M[i] ∧ x ∈ M := by
  have hd : M = M.take i ++ M[i] :: M.drop (i + 1) := by
    rw [← List.drop_eq_getElem_cons hi, List.take_append_drop]
  have hnd' := hnd
  rw [hd] at hnd'
  rw [List.nodup_append] at hnd'
  have h2 := List.nodup_cons.1 hnd'.2.1
  rw [List.eraseIdx_eq_take_drop_succ, List.mem_append]
  conv => rhs; rhs; rw [hd, List.mem_append, List.mem_cons]
  constructor
  · rintro (h | h)
    · exact ⟨fun e => hnd'.2.2 x h M[i] List.mem_cons_self e, .inl h⟩
    · exact ⟨fun e => h2.1 (e ▸ h), .inr (.inr h)⟩
  · rintro ⟨hne, h | h | h⟩
    · exact .inl h
    · exact absurd h hne
    · exact .inr h
theorem nodup_eraseIdx {M : List (Int × Int)} (hnd : M.Nodup) (i : Nat) : (M.eraseIdx i).Nodup := List.Pairwise.sublist (List.eraseIdx_sublist M i) hnd
theorem nodup_snoc {M : List (Int × Int)} (hnd : M.Nodup) {e : Int × Int} (he : e ∉ M) : (M ++ [e]).Nodup := by
  rw [List.nodup_append]
  refine ⟨hnd, by simp, ?_⟩
  intro a ha b hb hab
  simp at hb
  exact he (by rw [← hb, ← hab]; exact ha)

set_option maxHeartbeats 1000000 in
set_option maxRecDepth 100000 in
theorem qaa_walk (nr : Int) (h0 : 0 ≤ nr) (h1 : nr ≤ 255) (ao : Option Addr) (cap : Nat) (ps : List (Int × Int × Int)) (hps : ∀ p ∈ ps, (0 ≤ p.1 ∧ p.1 ≤ 255) ∧ (0 ≤ p.2.1 ∧ p.2.1 ≤ 255) ∧ (0 ≤ p.2.2 ∧ p.2.2 ≤ 255)) (hlen : ps.length ≤ 1024) (ux vx : Int) (W : World) (hraw : RawIn3 W .u8 ao ps) :
    Calls Ybdv.prog 5 #[.int .u8 nr, .slice ao ps.length cap, .int .i64 ux, .int .i64 vx] W fun e w' => e = .returned (.bool true) ∧ Below W.heap.size W w' := by
  obtain ⟨i0, hi, hz0, hz1, hz2⟩ := info_parts Ybdv.info28
  obtain ⟨n, hn, hn0, hn1⟩ : ∃ n, nr % 17 = n ∧ 0 ≤ n ∧ n ≤ 16 := ⟨_, rfl, by omega, by omega⟩
  go_enter Ybdv.func5, Ybdv.ntmps5
  go_wp2_with (
    go_at_call 9
    refine (from_any n hn0 (by omega) [] (by simp) (by simp) _ (EsIn.nil W.heap.size _)).mono ?_
    rintro e w1 ⟨v1, rfl, hE1, hb1⟩
    obtain ⟨a1, c1, rfl⟩ := hE1.shape)
  have l1 := hb1.size
  have hS1 : QaaSt W (w1.alloc (.cells #[.int .i64 n, .slice a1 (frm n []).length c1] 31)) w1.heap.size n (.slice none 0 0) 0 :=
    ⟨_, [], [], heap_alloc_new w1 _, hE1.alloc _, EsIn.nil _ _, List.Pairwise.nil, List.Pairwise.nil, by simp, by simp, by simp, by simp [Value.ownBlock], hb1.alloc l1 _⟩
  generalize hgb : w1.heap.size = gb at *
  generalize hwS : w1.alloc (.cells #[.int .i64 n, .slice a1 (frm n []).length c1] 31) = wS at *
  clear hwS hE1 hb1
  go_loopg [12, 38] ps.length (fun gk mv i wr => ∃ k : Nat, k ≤ ps.length ∧ gk = ps.length - k ∧ i = .int .i64 k ∧ QaaSt W wr gb n mv k)
  case atStart => exact ⟨0, Nat.zero_le _, by omega, rfl, hS1⟩
  case round =>
    obtain ⟨k, hk, rfl, rfl, ev, G, M, hg, hE, hM, hs, hnd, hmem, hGl, hMl, hdis, hb⟩ := hrel
    have lr := hb.size
    have zg := lt_of_block hg
    by_cases hlt : k < ps.length
    · obtain ⟨b, off, rfl, hbl, q0, q1, q2⟩ := hraw k hlt
      obtain ⟨⟨r0, r1⟩, ⟨r2, r3⟩, ⟨r4, r5⟩⟩ := hps ps[k] (List.getElem_mem hlt)
      have k0 : wr.cell? ⟨b, off + k * 3, none⟩ = some (.int .u8 ps[k].1) := (hb.cell (p := ⟨b, off + k * 3, none⟩) hbl).trans q0
      have k1 : wr.cell? ⟨b, off + k * 3 + 1, none⟩ = some (.int .u8 ps[k].2.1) := (hb.cell (p := ⟨b, off + k * 3 + 1, none⟩) hbl).trans q1
      have k2 : wr.cell? ⟨b, off + k * 3 + 2, none⟩ = some (.int .u8 ps[k].2.2) := (hb.cell (p := ⟨b, off + k * 3 + 2, none⟩) hbl).trans q2
      generalize ps[k] = p at *
      obtain ⟨a, ha, ha0, ha1⟩ : ∃ a, p.2.1 % (n + 2) - 1 = a ∧ -1 ≤ a ∧ a ≤ n := ⟨_, rfl, by have := Int.emod_nonneg p.2.1 (show n + 2 ≠ 0 by omega); omega, by have := Int.emod_lt_of_pos p.2.1 (show 0 < n + 2 by omega); omega⟩
      obtain ⟨c, hc, hc0, hc1⟩ : ∃ c, p.2.2 % (n + 2) - 1 = c ∧ -1 ≤ c ∧ c ≤ n := ⟨_, rfl, by have := Int.emod_nonneg p.2.2 (show n + 2 ≠ 0 by omega); omega, by have := Int.emod_lt_of_pos p.2.2 (show 0 < n + 2 by omega); omega⟩
      clear q0 q1 q2 hraw hps
      go_upto_region 13 with fail
      go_cut [17] (fun t wx => t = .bool (inR n a c) ∧ wr.alloc (.cells #[.int .u8 p.1, .int .u8 p.2.1, .int .u8 p.2.2] 46) = wx)
      case first =>
        by_cases h1 : 0 ≤ a
        · by_cases h2 : a < n
          · by_cases h3 : 0 ≤ c
            · by_cases h4 : c < n
              · have e1 : inR n a c = true := by simp [inR, h1, h2, h3, h4]
                go_wp2; go_meet
                case rel => exact ⟨by rw [e1], rfl⟩
              · have e1 : inR n a c = false := by simp [inR, h1, h2, h3, h4]
                go_wp2; go_meet
                case rel => exact ⟨by rw [e1], rfl⟩
            · have e1 : inR n a c = false := by simp [inR, h1, h2, h3]
              go_wp2; go_meet
              case rel => exact ⟨by rw [e1], rfl⟩
          · have e1 : inR n a c = false := by simp [inR, h1, h2]
            go_wp2; go_meet
            case rel => exact ⟨by rw [e1], rfl⟩
        · have e1 : inR n a c = false := by simp [inR, h1]
          go_wp2; go_meet
          case rel => exact ⟨by rw [e1], rfl⟩
      case rest =>
        obtain ⟨rfl, rfl⟩ := hcut
        clear k0 k1 k2
        have hM1 := hM.alloc (.cells #[.int .u8 p.1, .int .u8 p.2.1, .int .u8 p.2.2] 46)
        have hMl' : M.length ≤ 1000000 := by omega
        have hg1 : (wr.alloc (.cells #[.int .u8 p.1, .int .u8 p.2.1, .int .u8 p.2.2] 46)).heap[gb]? = some (.cells #[.int .i64 n, ev] 31 (0, 0)) := (Below.heap_alloc _ _ _ zg).trans hg
        have hE1 := hE.alloc (.cells #[.int .u8 p.1, .int .u8 p.2.1, .int .u8 p.2.2] 46)
        have hB1 := hb.alloc lr (.cells #[.int .u8 p.1, .int .u8 p.2.1, .int .u8 p.2.2] 46)
        have l1' : W.heap.size ≤ (wr.alloc (.cells #[.int .u8 p.1, .int .u8 p.2.1, .int .u8 p.2.2] 46)).heap.size := by simp; omega
        have HMEM := hide hmem
        have HND := hide hnd
        have HS := hide hs
        have HDIS := hide hdis
        clear hg hE hM hb hmem hnd hs hdis
        cases hpar : (p.1 % 2 == 0)
        · -- RemoveEdge
          by_cases hv : idxV M (a, c) < 0
          · have HIN : Hid ((a, c) ∉ M) := (idxV_neg M (a, c)).1 hv
            go_wp2_with (
              first
              | (go_at_call 14
                 refine (idx_any hMl' _ _ _ hM1).mono ?_
                 rintro e w' ⟨rfl, rfl⟩)
              | (go_at_call 16
                 refine (rem_any (base := W.heap.size) HS.out ?_ n gb _ _ _ hg1 hE1 l1').mono ?_
                 · omega
                 rintro e w2 ⟨rfl, ev', hg2, hE2, hG2, hfr⟩))
            go_roundg (ps.length - (k + 1))
            case measure => omega
            case rel =>
              refine ⟨k + 1, by omega, rfl, by go_num, qaa_step hg1 hM1 hG2 hg2 hE2 (HS.out.del _) hfr HDIS.out HND.out ?_ ?_ (by omega) hB1 l1' l1⟩
              · intro x
                rw [mem_delE HS.out, HMEM.out]
                constructor
                · intro h'; exact ⟨fun e => HIN.out (by rw [← e]; exact (HMEM.out x).2 h'), h'⟩
                · exact fun h' => h'.2
              · have := delE_length G (a, c); omega
          · have hvm : (a, c) ∈ M := (idxV_nonneg M (a, c)).1 (by omega)
            have hvl := (idxE_lt_iff M (a, c)).2 hvm
            have hve : idxV M (a, c) = (idxE M (a, c) : Int) := by unfold idxV; rw [if_pos hvl]
            have HAT := hide (idxE_at hvl)
            clear hvm hv
            have hv' : (0 : Int) ≤ (idxE M (a, c) : Int) := by omega
            go_wp2_with (
              first
              | (go_at_call 14
                 refine (idx_any hMl' _ _ _ hM1).mono ?_
                 rintro e w' ⟨rfl, rfl⟩)
              | (go_at_call 16
                 refine (rem_any (base := W.heap.size) HS.out ?_ n gb _ _ _ hg1 hE1 l1').mono ?_
                 · omega
                 rintro e w2 ⟨rfl, ev', hg2, hE2, hG2, hfr⟩
                 have hM2 := hM1.kept hG2 (.inr (hM1.notGraph hg1)))
              | (go_at_call 17
                 refine (drop_any hMl' _ hvl _ hM2).mono ?_
                 rintro e w3 ⟨mv', rfl, hM3, hb3⟩))
            go_roundg (ps.length - (k + 1))
            case measure => omega
            case rel =>
              have l2 := hG2.size
              refine ⟨k + 1, by omega, rfl, by go_num, qaa_drop hg2 hE2 (hB1.grown hG2 l1' (by simp; omega)) (by omega) hb3 hM3 (HS.out.del _) (nodup_eraseIdx HND.out _) ?_ ?_ ?_⟩
              · intro x
                rw [mem_eraseIdx_nodup HND.out hvl, mem_delE HS.out, HAT.out, HMEM.out]
              · have := delE_length G (a, c); omega
              · have := List.length_eraseIdx_le M (idxE M (a, c)); omega
        · -- AddEdge
          cases hir : inR n a c
          · have HIR := hide hir
            go_wp2_with (
              first
              | (go_at_call 14
                 refine (idx_any hMl' _ _ _ hM1).mono ?_
                 rintro e w' ⟨rfl, rfl⟩)
              | (go_at_call 15
                 refine (add_fresh (base := W.heap.size) HS.out ?_ n gb _ _ _ hg1 hE1 l1').mono ?_
                 · omega
                 rintro e w2 ⟨rfl, ev', hg2, hE2, hG2, hfr⟩))
            go_roundg (ps.length - (k + 1))
            case measure => omega
            case rel =>
              refine ⟨k + 1, by omega, rfl, by go_num, qaa_step hg1 hM1 hG2 hg2 hE2 (addE_sorted n HS.out _ _) hfr HDIS.out HND.out ?_ ?_ (by omega) hB1 l1' l1⟩
              · intro x
                rw [mem_addE, HMEM.out]
                simp [HIR.out]
              · have := addE_length n G a c; omega
          · by_cases hv : idxV M (a, c) < 0
            · have HIN : Hid ((a, c) ∉ M) := (idxV_neg M (a, c)).1 hv
              have HIR := hide hir
              go_wp2_with (
                first
                | (go_at_call 14
                   refine (idx_any hMl' _ _ _ hM1).mono ?_
                   rintro e w' ⟨rfl, rfl⟩)
                | (go_at_call 15
                   refine (add_fresh (base := W.heap.size) HS.out ?_ n gb _ _ _ hg1 hE1 l1').mono ?_
                   · omega
                   rintro e w2 ⟨rfl, ev', hg2, hE2, hG2, hfr⟩
                   have hM2 := hM1.kept hG2 (.inr (hM1.notGraph hg1))
                   have hl2 := hG2.size)
                | (at_builtin
                   refine wpList_append_lies _ rfl (.tmp 88) (.tmp 92) 23 rfl W.heap.size 28 i0 _ 2 16 Ybdv.underlying23 hi hz0 hz1 hz2 rfl (by omega) _ M.length (flatE M) rfl (hM2.alloc _) ⟨w2.heap.size, 0, none⟩ 1 1 [.int .i64 a, .int .i64 c] rfl rfl ?_ (flatE_one [(a, c)]) (by omega) ?_ ?_ ?_ (w2.heap.size + 1) ?_ ?_
                   · intro j y hj
                     rw [Addr.add_lit]
                     match j, hj with
                     | 0, hj => simp at hj; subst hj; simp
                     | 1, hj => simp at hj; subst hj; simp
                   · unfold maxLen; omega
                   · omega
                   · simp; omega
                   · simp
                   intro g3 c3 w3 ho3 hG3 hat3 hlt3))
              go_roundg (ps.length - (k + 1))
              case measure => omega
              case rel =>
                have hM3 : EsIn W.heap.size w3 (.slice (some ⟨g3, 0, none⟩) (M.length + 1) c3) (M ++ [(a, c)]) := by
                  unfold EsIn
                  rw [flatE_append, List.length_append]
                  exact ho3
                have hst := qaa_step (k := k + 1) hg1 hM1 hG2 hg2 hE2 (addE_sorted n HS.out _ _) hfr HDIS.out
                refine ⟨k + 1, by omega, rfl, by go_num, qaa_append hg2 hE2 hM2 ?_ (hB1.grown hG2 l1' (by simp; omega)) (by omega) hG3 hM3 hat3 (addE_sorted n HS.out _ _) (nodup_snoc HND.out HIN.out) ?_ ?_ ?_⟩
                · intro j hj he
                  rcases hfr with rfl | hfr
                  · exact HDIS.out j hj he
                  · have h1 := hfr j hj
                    have h2 := hM1.ownLt j he
                    omega
                · intro x
                  rw [mem_addE, List.mem_append, HMEM.out]
                  simp only [HIR.out, true_and, List.mem_singleton]
                  exact Or.comm
                · have := addE_length n G a c; omega
                · simp; omega
            · have hvm : (a, c) ∈ M := (idxV_nonneg M (a, c)).1 (by omega)
              have HVM := hide hvm
              have HIR := hide hir
              clear hvm
              go_wp2_with (
                first
                | (go_at_call 14
                   refine (idx_any hMl' _ _ _ hM1).mono ?_
                   rintro e w' ⟨rfl, rfl⟩)
                | (go_at_call 15
                   refine (add_fresh (base := W.heap.size) HS.out ?_ n gb _ _ _ hg1 hE1 l1').mono ?_
                   · omega
                   rintro e w2 ⟨rfl, ev', hg2, hE2, hG2, hfr⟩))
              go_roundg (ps.length - (k + 1))
              case measure => omega
              case rel =>
                refine ⟨k + 1, by omega, rfl, by go_num, qaa_step hg1 hM1 hG2 hg2 hE2 (addE_sorted n HS.out _ _) hfr HDIS.out HND.out ?_ ?_ (by omega) hB1 l1' l1⟩
                · intro x
                  rw [mem_addE, HMEM.out]
                  constructor
                  · exact fun h' => .inr h'
                  · rintro (⟨_, rfl⟩ | h')
                    · exact (HMEM.out _).1 HVM.out
                    · exact h'
                · have := addE_length n G a c; omega
    · obtain ⟨ea, ec, rfl⟩ := hE.shape
      have c1 := gr_cell1 hg
      have HMEM := hide hmem
      have HS := hide hs
      have zE := hE.ownLt
      have zM := hM.ownLt
      have hMl' : M.length ≤ 1000000 := by omega
      clear hmem hs hnd hraw hps hdis
      go_wp2_with (
        at_make
        refine wpList_make_full _ rfl (.tmp 105) (.tmp 105) 23 rfl W.heap.size 28 i0 _ 2 Ybdv.underlying23 hi hz0 hz1 .i64 .i64 _ _ G.length rfl rfl rfl rfl ?_ ?_ ?_ ?_
        · rw [hz2]; omega
        · unfold maxLen; omega
        · omega)
      intro w3 ho3 hG3
      have l3 := hG3.size
      have lN : wr.heap.size < w3.heap.size := (World.ownsRow.lt ho3 _ rfl).2
      have hB3 : Below W.heap.size W w3 := hb.trans ((below_grow hG3).mono (by omega))
      have hg3 := (hG3.block gb (by omega) (by simp)).trans hg
      have hE3 := hE.below' (below_grow hG3)
      have hM3 := hM.below' (below_grow hG3)
      have c3 := gr_cell0 hg3
      have c3' := gr_cell1 hg3
      clear hE hM hG3 hb hg c1
      go_wp2_with (
        refine wpList_copy_whole _ rfl (.tmp 107) (.tmp 109) 23 rfl W.heap.size W.heap.size 28 i0 2 Ybdv.underlying23 hi hz1 wr.heap.size G.length G.length _ rfl ho3 _ (flatE G) rfl hE3 (flatE_one _) ?_)
      intro w4 ho4 hG4
      have l4 := hG4.size
      have hB4 : Below W.heap.size W w4 := hB3.grown hG4 (by omega) (by simp; omega)
      have hg4 := (hG4.block gb (by omega) (by simp; omega)).trans hg3
      have hE4 := hE3.kept hG4 (.inr fun e => by have := zE _ e; omega)
      have hM4 := hM3.kept hG4 (.inr fun e => by have := zM _ e; omega)
      have hK4 : EsIn W.heap.size w4 (.slice (some ⟨wr.heap.size, 0, none⟩) G.length G.length) G := ho4
      clear hE3 hM3 hG4 hg3 ho3 c3 c3' ho4 hB3
      have HQ : Hid ((!(hasE G (ux, vx) == decide (0 ≤ idxV M (ux, vx)))) = false) := by
        show _ = _
        have e1 := hasE_iff HS.out (ux, vx)
        have e2 := idxV_nonneg M (ux, vx)
        have e3 := HMEM.out (ux, vx)
        have : hasE G (ux, vx) = decide (0 ≤ idxV M (ux, vx)) := by
          rw [Bool.eq_iff_iff, decide_eq_true_iff, e1, e2, e3]
        rw [this]; simp
      have hq := HQ.out
      go_wp2_with (
        first
        | (go_at_call 18
           refine (has_any HS.out ?_ n gb _ _ _ _ hg4 hE4).mono ?_
           · omega
           rintro e w5 ⟨rfl, hb5⟩
           have hg5 := (hb5.block gb (by omega)).trans hg4
           have c5 := gr_cell0 hg5
           have c5' := gr_cell1 hg5
           have hM5 := hM4.below' hb5)
        | (go_at_call 14
           refine (idx_any hMl' _ _ _ hM5).mono ?_
           rintro e w' ⟨rfl, rfl⟩))
      have hB5 : Below W.heap.size W w' := hB4.trans (hb5.mono (by omega))
      have hE5 := hE4.below' hb5
      have hK5 := hK4.below' hb5
      have hne := neq28
      have hgd := guard28
      obtain ⟨a2', c2', hq2, _, _, hcE⟩ := hE5.form
      simp only [Value.slice.injEq, true_and] at hq2
      obtain ⟨rfl, rfl⟩ := hq2
      obtain ⟨bo, cb, hq3, _, _, hcK⟩ := hK5.form
      simp only [Value.slice.injEq, true_and] at hq3
      obtain ⟨rfl, rfl⟩ := hq3
      clear hE4 hM4 hK4 hb5 hg4 hB4 hE5 hK5 hM5
      go_loopw [22] (fun i wr => ∃ k m : Nat, k ≤ G.length ∧ i = .int .i64 k ∧ wr = w'.drewN m) (fun i _ => G.length - (intOf i).toNat)
      case atStart => exact ⟨0, 0, Nat.zero_le _, rfl, rfl⟩
      case round =>
        obtain ⟨j, m, hj, rfl, rfl⟩ := hrel
        by_cases hlt2 : j < G.length
        · obtain ⟨g, rfl, _, k0, k1⟩ := hcE j hlt2
          obtain ⟨g', hg', _, k2, k3⟩ := hcK j hlt2
          simp only [Option.some.injEq, Addr.mk.injEq, and_true] at hg'
          subst hg'
          have ik0 : (0 : Int) ≤ (j : Int) := by omega
          have ik1 : (j : Int) < (G.length : Int) := by omega
          generalize G[j] = p at *
          clear hcE hcK
          go_wp2
          go_quiet (fail)
          go_wp2
          go_roundw
          case rel => exact ⟨j + 1, _, by omega, by go_num, rfl⟩
          case measure => simp [intOf]; omega
        · clear hcE hcK
          go_wp2
          go_ret
          exact ⟨rfl, below_drewN hB5 _⟩

set_option maxHeartbeats 400000 in
theorem qaa_long (nr : Int) (ao : Option Addr) (len cap : Nat) (hlen : 1024 < len) (ux vx : Int) (W : World) :
    Calls Ybdv.prog 5 #[.int .u8 nr, .slice ao len cap, .int .i64 ux, .int .i64 vx] W fun e w' => e = .returned (.bool true) ∧ w' = W := by
  go_enter Ybdv.func5, Ybdv.ntmps5
  go_wp2
  go_ret
  exact ⟨rfl, rfl⟩

end Go.Proofs.Ymwhbd
