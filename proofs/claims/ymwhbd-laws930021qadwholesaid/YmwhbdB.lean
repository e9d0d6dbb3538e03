import Derived.Test.YmwhbdA
import Derived.Test.YmwhbdPlain
namespace Go.Proofs.Ymwhbd
open Go.RowKit
set_option linter.unusedSimpArgs false
set_option linter.unusedVariables false

/-- The cells of a list of edges, two a piece. -/
def flatE (es : List (Int × Int)) : List Value := es.flatMap fun e => [.int .i64 e.1, .int .i64 e.2]
theorem flatE_nil : flatE [] = [] := rfl
theorem flatE_cons (x : Int × Int) (r : List (Int × Int)) : flatE (x :: r) = .int .i64 x.1 :: .int .i64 x.2 :: flatE r := by simp [flatE]
theorem flatE_length (es : List (Int × Int)) : (flatE es).length = es.length * 2 := by
  induction es with
  | nil => rfl
  | cons x r ih => rw [flatE_cons]; simp [ih]; omega
theorem flatE_append (a b : List (Int × Int)) : flatE (a ++ b) = flatE a ++ flatE b := by simp [flatE]
theorem flatE_get0 (es : List (Int × Int)) (i : Nat) (h : i < es.length) : (flatE es)[i * 2]? = some (.int .i64 es[i].1) := by
  induction es generalizing i with
  | nil => simp at h
  | cons x r ih =>
    rw [flatE_cons]
    match i with
    | 0 => simp
    | j + 1 => rw [show (j + 1) * 2 = j * 2 + 1 + 1 by omega]; simpa using ih j (by simpa using h)
theorem flatE_get1 (es : List (Int × Int)) (i : Nat) (h : i < es.length) : (flatE es)[i * 2 + 1]? = some (.int .i64 es[i].2) := by
  induction es generalizing i with
  | nil => simp at h
  | cons x r ih =>
    rw [flatE_cons]
    match i with
    | 0 => simp
    | j + 1 => rw [show (j + 1) * 2 + 1 = j * 2 + 1 + 1 + 1 by omega]; simpa using ih j (by simpa using h)
theorem flatE_one (es : List (Int × Int)) : ∀ u ∈ flatE es, u.oneCell' = true := by
  intro u hu
  simp only [flatE, List.mem_flatMap] at hu
  obtain ⟨e, _, he⟩ := hu
  simp at he
  rcases he with rfl | rfl <;> rfl
theorem flatE_take (es : List (Int × Int)) (k : Nat) : flatE (es.take k) = (flatE es).take (k * 2) := by
  induction es generalizing k with
  | nil => simp [flatE]
  | cons x r ih =>
    match k with
    | 0 => simp [flatE]
    | j + 1 => rw [List.take_succ_cons, flatE_cons, flatE_cons, ih, show (j + 1) * 2 = j * 2 + 1 + 1 by omega]; simp
theorem flatE_drop (es : List (Int × Int)) (k : Nat) : flatE (es.drop k) = (flatE es).drop (k * 2) := by
  induction es generalizing k with
  | nil => simp [flatE]
  | cons x r ih =>
    match k with
    | 0 => simp [flatE]
    | j + 1 => rw [List.drop_succ_cons, flatE_cons, ih, show (j + 1) * 2 = j * 2 + 1 + 1 by omega]; simp

/-- The slice value v lies in memory of blocks from 'base' on and reads as the edges es. -/
def EsIn (base : Nat) (w : World) (v : Value) (es : List (Int × Int)) : Prop := w.ownsRow base 28 2 v es.length (flatE es)

theorem EsIn.view {base : Nat} {w : World} {v : Value} {es : List (Int × Int)} (h : EsIn base w v es) :
    (v = .slice none 0 0 ∧ es = []) ∨ ∃ g cap, v = .slice (some ⟨g, 0, none⟩) es.length cap ∧ base ≤ g ∧ g < w.heap.size ∧ es.length ≤ cap ∧ cap ≤ maxLen ∧
      (∀ i (hi : i < es.length), w.cell? ⟨g, i * 2, none⟩ = some (.int .i64 es[i].1) ∧ w.cell? ⟨g, i * 2 + 1, none⟩ = some (.int .i64 es[i].2)) := by
  rcases h.2 with ⟨h1, h2⟩ | ⟨g, cap, cur, hv, hb, hg, hn, hm, hs, ht⟩
  · exact .inl ⟨h1, List.eq_nil_of_length_eq_zero h2⟩
  · subst hv
    refine .inr ⟨g, cap, rfl, hb, lt_of_block hg, hn, hm, fun i hi => ⟨?_, ?_⟩⟩
    · rw [World.ownsRow.cellAt h _ (by omega)]; exact flatE_get0 es i hi
    · rw [World.ownsRow.cellAt h _ (by omega)]; exact flatE_get1 es i hi

theorem EsIn.nil (base : Nat) (w : World) : EsIn base w (.slice none 0 0) [] := World.ownsRow_nil _ _ _ _

theorem EsIn.alloc {base : Nat} {w : World} {v : Value} {es : List (Int × Int)} (h : EsIn base w v es) (o : Obj) : EsIn base (w.alloc o) v es := World.ownsRow.alloc h o
theorem EsIn.drew {base : Nat} {w : World} {v : Value} {es : List (Int × Int)} (h : EsIn base w v es) : EsIn base w.drew v es := h

theorem EsIn.rebase {base base' : Nat} {w : World} {v : Value} {es : List (Int × Int)} (h : EsIn base w v es) (hb : ∀ k, v.ownBlock = some k → base' ≤ k) : EsIn base' w v es := by
  refine ⟨h.1, ?_⟩
  rcases h.2 with h2 | ⟨g, cap, cur, hv, _, r⟩
  · exact .inl h2
  · exact .inr ⟨g, cap, cur, hv, hb g (by rw [hv]; rfl), r⟩

/-- What lies below B stays as it was. -/
theorem EsIn.below {base B : Nat} {w w' : World} {v : Value} {es : List (Int × Int)} (h : EsIn base w v es) (hb : Below B w w') (hB : ∀ k, v.ownBlock = some k → k < B) : EsIn base w' v es := by
  refine ⟨h.1, ?_⟩
  rcases h.2 with h2 | ⟨g, cap, cur, hv, h1, hg, r⟩
  · exact .inl h2
  · exact .inr ⟨g, cap, cur, hv, h1, by rw [hb.block g (hB g (by rw [hv]; rfl))]; exact hg, r⟩

theorem EsIn.ownLt {base : Nat} {w : World} {v : Value} {es : List (Int × Int)} (h : EsIn base w v es) : ∀ k, v.ownBlock = some k → k < w.heap.size :=
  fun k hk => (World.ownsRow.lt h k hk).2

theorem EsIn.below' {base : Nat} {w w' : World} {v : Value} {es : List (Int × Int)} (h : EsIn base w v es) (hb : Below w.heap.size w w') : EsIn base w' v es := h.below hb h.ownLt

theorem bcell {B : Nat} {W w1 : World} (hb : Below B W w1) : (∀ b o, b < B → w1.cell? ⟨b, o, none⟩ = W.cell? ⟨b, o, none⟩) ∧ (∀ b o, b < B → w1.frozen? ⟨b, o, none⟩ = W.frozen? ⟨b, o, none⟩) :=
  ⟨fun b o h => hb.cell (p := ⟨b, o, none⟩) h, fun b o h => hb.frozen (p := ⟨b, o, none⟩) h⟩

theorem cmpE_neg (a b : Int × Int) : (cmpE a.1 a.2 b.1 b.2 < 0) ↔ ltE a b = true := by
  rw [ltE_iff]; unfold cmpE
  split
  · simp; omega
  · split
    · simp; omega
    · split
      · simp; omega
      · split <;> simp <;> omega

theorem pairB (p : Int × Int) (x y : Int) : decide (p = (x, y)) = (p.1 == x && p.2 == y) := by
  obtain ⟨a, b⟩ := p
  by_cases h1 : a = x <;> by_cases h2 : b = y <;> simp [h1, h2]
theorem ret_ib {a a' : Int} {b b' : Bool} (h : a = a') (k : b' = b) : Ending.returned (.tuple #[.int .i64 a, .bool b]) = .returned (.tuple #[.int .i64 a', .bool b']) := by rw [h, k]

set_option maxHeartbeats 400000 in
theorem find_some (es : List (Int × Int)) (hs : SortedE es) (g cap : Nat) (x y : Int) (w : World) (hgw : g < w.heap.size) (hlen : es.length ≤ 1000000)
    (hc : ∀ i (hi : i < es.length), w.cell? ⟨g, i * 2, none⟩ = some (.int .i64 es[i].1) ∧ w.cell? ⟨g, i * 2 + 1, none⟩ = some (.int .i64 es[i].2)) :
    Calls Ybdv.prog 24 #[.slice (some ⟨g, 0, none⟩) es.length cap, .agg #[.int .i64 x, .int .i64 y]] w fun e w' =>
      e = .returned (.tuple #[.int .i64 (posE es (x, y)), .bool (hasE es (x, y))]) ∧ Below w.heap.size w w' := by
  have hple := posE_le es (x, y)
  go_enter Ybdv.func24, Ybdv.ntmps24
  go_wp2
  go_loopw [6, 7] (fun lo hi wr => ∃ l h : Nat, l ≤ posE es (x, y) ∧ posE es (x, y) ≤ h ∧ h ≤ es.length ∧ lo = .int .i64 l ∧ hi = .int .i64 h ∧ Below (w.heap.size + 1) (w.alloc (.cells #[.int .i64 x, .int .i64 y] 28)) wr)
    (fun lo hi _ => (intOf hi - intOf lo).toNat)
  case atStart => exact ⟨0, es.length, by omega, by omega, by omega, rfl, rfl, Below.refl _ _⟩
  case round =>
    obtain ⟨l, h, hl, hh, hn, rfl, rfl, hb⟩ := hrel
    by_cases hlt : l < h
    · obtain ⟨m, hm1, hm2, hm3⟩ : ∃ m : Nat, (l : Int) + ((h : Int) - (l : Int)) / 2 = (m : Int) ∧ l ≤ m ∧ m < h := ⟨l + (h - l) / 2, by omega, by omega, by omega⟩
      have hmn : m < es.length := by omega
      have hz := hb.size
      simp at hz
      obtain ⟨q0, q1⟩ := hc m hmn
      have k0 : wr.cell? ⟨g, m * 2, none⟩ = some (.int .i64 es[m].1) := by rw [(bcell hb).1 _ _ (by omega), World.cell?_alloc_lt _ _ _ (by simpa using hgw)]; exact q0
      have k1 : wr.cell? ⟨g, m * 2 + 1, none⟩ = some (.int .i64 es[m].2) := by rw [(bcell hb).1 _ _ (by omega), World.cell?_alloc_lt _ _ _ (by simpa using hgw)]; exact q1
      have k2 : wr.cell? ⟨w.heap.size, 0, none⟩ = some (.int .i64 x) := by rw [(bcell hb).1 _ _ (by omega)]; simp
      have k3 : wr.cell? ⟨w.heap.size, 1, none⟩ = some (.int .i64 y) := by rw [(bcell hb).1 _ _ (by omega)]; simp
      have i0 : (0 : Int) ≤ (m : Int) := by omega
      have i1 : (m : Int) < (es.length : Int) := by omega
      generalize hpm : es[m] = pm at k0 k1
      clear q0 q1
      have z1 : g < wr.heap.size := by omega
      have z2 : w.heap.size < wr.heap.size := by omega
      go_wp2
      go_region_held3 (fun w' => w'.cell? ⟨g, m * 2, none⟩ = some (.int .i64 pm.1) ∧ w'.cell? ⟨g, m * 2 + 1, none⟩ = some (.int .i64 pm.2) ∧ w'.cell? ⟨w.heap.size, 0, none⟩ = some (.int .i64 x) ∧ w'.cell? ⟨w.heap.size, 1, none⟩ = some (.int .i64 y)) (go_keep)
        ((go_at_call 26; refine (cmp_any _ _ _ _ _).mono ?_; rintro e w' ⟨rfl, hb'⟩; have e0 := (hb'.cell (p := ⟨g, m * 2, none⟩) z1).trans k0; have e1 := (hb'.cell (p := ⟨g, m * 2 + 1, none⟩) z1).trans k1; have e2 := (hb'.cell (p := ⟨w.heap.size, 0, none⟩) z2).trans k2; have e3 := (hb'.cell (p := ⟨w.heap.size, 1, none⟩) z2).trans k3))
      have hB' : Below (w.heap.size + 1) (w.alloc (.cells #[.int .i64 x, .int .i64 y] 28)) w' := hb.drew.trans (hb'.mono (by show _ ≤ wr.heap.size; omega))
      have HL : Hid (ltE pm (x, y) = true ↔ m < posE es (x, y)) := by have := hs.lt_iff (x, y) hmn; rw [hpm] at this; exact this
      have HN : Hid ((cmpE pm.1 pm.2 x y < 0) ↔ ltE pm (x, y) = true) := cmpE_neg pm (x, y)
      clear hb hb' e0 e1 e2 e3 k0 k1 k2 k3 hc hpm
      by_cases hq : cmpE pm.1 pm.2 x y < 0
      · have hp : m < posE es (x, y) := HL.out.1 (HN.out.1 hq)
        go_wp2
        go_roundw
        case rel => exact ⟨m + 1, h, by omega, by omega, by omega, by go_num, rfl, hB'⟩
        case measure => simp [intOf]; omega
      · have hp : posE es (x, y) ≤ m := by
          rcases Nat.lt_or_ge m (posE es (x, y)) with h' | h'
          · exact absurd (HN.out.2 (HL.out.2 h')) hq
          · exact h'
        go_wp2
        go_roundw
        case rel => exact ⟨l, m, by omega, by omega, by omega, rfl, rfl, hB'⟩
        case measure => simp [intOf]; omega
    · obtain rfl : l = posE es (x, y) := by omega
      generalize hp : posE es (x, y) = l at *
      have hB0 : Below w.heap.size w wr := ((Below.refl _ _).alloc (Nat.le_refl _) _).trans (hb.mono (by omega))
      have hz := hb.size
      simp at hz
      have k2 : wr.cell? ⟨w.heap.size, 0, none⟩ = some (.int .i64 x) := by rw [(bcell hb).1 _ _ (by omega)]; simp
      have k3 : wr.cell? ⟨w.heap.size, 1, none⟩ = some (.int .i64 y) := by rw [(bcell hb).1 _ _ (by omega)]; simp
      by_cases hn : l < es.length
      · obtain ⟨q0, q1⟩ := hc l hn
        have k0 : wr.cell? ⟨g, l * 2, none⟩ = some (.int .i64 es[l].1) := by rw [(bcell hb).1 _ _ (by omega), World.cell?_alloc_lt _ _ _ (by simpa using hgw)]; exact q0
        have k1 : wr.cell? ⟨g, l * 2 + 1, none⟩ = some (.int .i64 es[l].2) := by rw [(bcell hb).1 _ _ (by omega), World.cell?_alloc_lt _ _ _ (by simpa using hgw)]; exact q1
        have hh2 : hasE es (x, y) = decide (es[l] = (x, y)) := by unfold hasE; rw [hp, List.getElem?_eq_getElem hn]; simp
        generalize hpm : es[l] = pm at *
        have i0 : (0 : Int) ≤ (l : Int) := by omega
        have i1 : (l : Int) < (es.length : Int) := by omega
        have HP := hide hh2
        have HQ := hide hp
        clear hc hb hp hh2 hpm q0 q1
        have heq := eql28
        have hgd := guard28
        go_wp2
        go_quiet (fail)
        go_wp2
        go_ret2
        exact ⟨ret_ib (by rw [HQ.out]) (by rw [HP.out, pairB]), below_drewN hB0 _⟩
      · have hh2 : hasE es (x, y) = false := by unfold hasE; rw [hp, List.getElem?_eq_none (by omega)]; simp
        have hd : decide ((l : Int) < (es.length : Int)) = false := decide_eq_false (by omega)
        have HP := hide hh2
        have HQ := hide hp
        clear hc hb hp hh2
        go_wp2
        go_quiet (fail)
        go_wp2
        go_ret2
        exact ⟨ret_ib (by rw [HQ.out]) (by rw [HP.out]), below_drewN hB0 _⟩

set_option maxHeartbeats 400000 in
theorem find_nil (x y : Int) (w : World) :
    Calls Ybdv.prog 24 #[.slice none 0 0, .agg #[.int .i64 x, .int .i64 y]] w fun e w' =>
      e = .returned (.tuple #[.int .i64 (posE [] (x, y)), .bool (hasE [] (x, y))]) ∧ Below w.heap.size w w' := by
  have hB0 : Below w.heap.size w (w.alloc (.cells #[.int .i64 x, .int .i64 y] 28)) := (Below.refl _ _).alloc (Nat.le_refl _) _
  have hd : decide ((0 : Int) < (0 : Int)) = false := by simp
  go_enter Ybdv.func24, Ybdv.ntmps24
  go_wp2
  refine wp_loop_rounds 1 ?_
  rw [rounds_succ]
  go_wp2
  go_quiet (fail)
  go_wp2
  go_ret2
  exact ⟨ret_ib rfl rfl, below_drewN hB0 _⟩

/-- 'find': the place of e in a sorted list of edges, and whether it is there. -/
theorem find_any {base : Nat} {v : Value} {es : List (Int × Int)} (hs : SortedE es) (hlen : es.length ≤ 1000000) (x y : Int) (w : World) (h : EsIn base w v es) :
    Calls Ybdv.prog 24 #[v, .agg #[.int .i64 x, .int .i64 y]] w fun e w' =>
      e = .returned (.tuple #[.int .i64 (posE es (x, y)), .bool (hasE es (x, y))]) ∧ Below w.heap.size w w' := by
  rcases h.view with ⟨rfl, rfl⟩ | ⟨g, cap, rfl, _, hg, _, _, hc⟩
  · exact find_nil x y w
  · exact find_some es hs g cap x y w hg hlen hc

theorem below_keep {w w' : World} (hb : Below w.heap.size w w') : ∀ a y, w.cell? a = some y → w'.cell? a = some y :=
  fun a y h => (hb.cell (World.block_lt_of_cell? w a h)).trans h

/-- The same, the cells that are there told. -/
theorem find_keep {base : Nat} {v : Value} {es : List (Int × Int)} (hs : SortedE es) (hlen : es.length ≤ 1000000) (x y : Int) (w : World) (h : EsIn base w v es) :
    Calls Ybdv.prog 24 #[v, .agg #[.int .i64 x, .int .i64 y]] w fun e w' =>
      e = .returned (.tuple #[.int .i64 (posE es (x, y)), .bool (hasE es (x, y))]) ∧ Below w.heap.size w w' ∧ ∀ a y, w.cell? a = some y → w'.cell? a = some y :=
  (find_any hs hlen x y w h).mono fun e w' ⟨h1, h2⟩ => ⟨h1, h2, below_keep h2⟩

end Go.Proofs.Ymwhbd
