import Derived.Test.YthihiidooomdnaaFk
namespace Go.Proofs.Ythihiidooomdnaa.D
open Go.RowKit
set_option linter.unusedVariables false
set_option linter.unusedSimpArgs false
theorem skip_loop {m : Mem} {b : Value} {xs : List Int} (hb : By m b xs) (hxl : xs.length ≤ 4000000) (x y o : Value) : ∀ (k i : Nat), i + k = xs.length →
    L (CC gv1) (.loop 701) [b, x, y, o, .int .i64 i] m [] = some ⟨.exit 2, [b, x, y, o, .int .i64 (skipTo xs i)], m, []⟩ := by
  intro k
  induction k with
  | zero =>
    intro i hi
    obtain rfl : i = xs.length := by omega
    refine Q701 gv1 ?_
    simp [y701, hb.len, skipTo]
  | succ k ih =>
    intro i hi
    have hxi : i < xs.length := by omega
    obtain ⟨p, off, p1, p2⟩ := hb.byte (List.getElem?_eq_getElem hxi) .i64
    have hd : xs.drop i = xs[i] :: xs.drop (i + 1) := List.drop_eq_getElem_cons hxi
    refine Q701 gv1 ?_
    by_cases hc : xs[i] = 10
    · have es : skipTo xs i = i := by unfold skipTo; rw [hd, hc]; simp
      simp [y701, hb.len, hxi, p1, p2, hc, es]
    · have es : skipTo xs i = skipTo xs (i + 1) := by
        unfold skipTo
        rw [hd, List.takeWhile_cons_of_pos (by simp [hc])]
        simp only [List.length_cons]
        omega
      have hi2 := ih (i + 1) (by omega)
      rw [Int.natCast_add] at hi2
      simp only [Int.natCast_one] at hi2
      have w : IntKind.wrap .i64 ((i : Int) + 1) = (i : Int) + 1 := wrap_i64 (by omega) (by omega)
      simp [y701, hb.len, hxi, p1, p2, hc, es, w, hi2]
theorem skipTo_le (xs : List Int) {i : Nat} (h : i ≤ xs.length) : skipTo xs i ≤ xs.length := by
  unfold skipTo
  have := (List.takeWhile_sublist (fun c : Int => decide (c ≠ 10)) (l := xs.drop i)).length_le
  simp only [List.length_drop] at this
  omega
theorem first_le (xs : List Int) : (first xs).2.1 ≤ xs.length ∧ ((first xs).1 = 1 → 0 < (first xs).2.1) ∧ ((first xs).1 = 0 ∨ (first xs).1 = 1 ∨ (first xs).1 = 2) := by
  obtain ⟨s1, s2, s3⟩ := scan_bound xs 0 0 (by omega) (Int.le_refl _) (by simp)
  have s0 := scan_nonneg xs 0 0 (Int.le_refl _)
  unfold first
  generalize scan xs 0 0 = sc at *
  obtain ⟨bd, n, a⟩ := sc
  simp only at *
  split
  · exact ⟨by simp only; omega, fun h => by simp at h, .inr (.inr rfl)⟩
  · split
    · exact ⟨Nat.zero_le _, fun h => by simp at h, .inl rfl⟩
    · split
      · exact ⟨by simp only; omega, fun h => by simp at h, .inr (.inr rfl)⟩
      · split
        · exact ⟨Nat.zero_le _, fun h => by simp at h, .inl rfl⟩
        · split
          · exact ⟨by simp only; omega, fun h => by simp at h, .inr (.inr rfl)⟩
          · exact ⟨by simp only; omega, fun _ => by simp only; omega, .inr (.inl rfl)⟩
theorem rsplit_loop (m0 : Mem) : ∀ (k : Nat) (xs : List Int) (its : List It) (m : Mem) (b vl : Value) (ol : Nat) (ws : List (Bool × Value)), xs.length ≤ k → its.length + xs.length ≤ 2000000 → (∀ c ∈ xs, 0 ≤ c ∧ c ≤ 255) → By m0 b xs → GeN m0.next m0 m → m0.next ≤ m.next → m.lo ≤ m.next → Ow m vl 2 ol ws.length (encI ws) → (ol < m0.next → vl = .slice none 0 0) → Its m0 (fun _ => False) ws its →
    ∃ m' vl' w ol' ws', ((∃ b', L (CC gv1) (.loop 700) [b, .slice none 0 0, .slice none 0 0, vl] m [] = some ⟨.exit 0, [b', .slice none 0 0, .slice none 0 0, vl'], m', []⟩ ∧ w = .slice none 0 0) ∨ (∃ b' o', L (CC gv1) (.loop 700) [b, .slice none 0 0, .slice none 0 0, vl] m [] = some ⟨.ret, [b', vl', w, o'], m', []⟩)) ∧
      GeN m0.next m0 m' ∧ m0.next ≤ m'.next ∧ m'.lo ≤ m'.next ∧ Ow m' vl' 2 ol' ws'.length (encI ws') ∧ Its m0 (fun _ => False) ws' (rsplit k xs its).1 ∧ By m0 w (rsplit k xs its).2 := by
  intro k
  induction k with
  | zero =>
    intro xs its m b vl ol ws hk hl hx hb hg hnx hm ho hno hi
    have : xs = [] := List.eq_nil_of_length_eq_zero (by omega)
    subst this
    refine ⟨m, vl, .slice none 0 0, ol, ws, .inl ⟨b, Q700 gv1 ?_, rfl⟩, hg, hnx, hm, ho, hi, .inl ⟨rfl, rfl⟩⟩
    simp [y700, hb.len]
  | succ k ih =>
    intro xs its m b vl ol ws hk hl hx hb hg hnx hm ho hno hi
    by_cases hne : xs = []
    · subst hne
      refine ⟨m, vl, .slice none 0 0, ol, ws, .inl ⟨b, Q700 gv1 ?_, rfl⟩, hg, hnx, hm, ho, hi, .inl ⟨rfl, rfl⟩⟩
      simp [y700, hb.len]
    have hpos : (0 : Int) < (xs.length : Int) := by
      have : xs.length ≠ 0 := fun e => hne (List.eq_nil_of_length_eq_zero e)
      omega
    have hbm := hb.mono hg.ge
    obtain ⟨v, f1, f2⟩ := first_run hb hg hx (by omega)
    obtain ⟨g1, g2, g3⟩ := first_le xs
    have hwl := hi.length
    unfold rsplit
    rw [if_neg hne]
    simp only []
    by_cases h0 : (first xs).1 = 0
    · rw [if_pos h0]
      refine ⟨m, vl, b, ol, ws, .inr ⟨b, vl, Q700 gv1 ?_⟩, hg, hnx, hm, ho, hi, hb⟩
      simp [y700, hb.len, hne, f1, h0]
    · rw [if_neg h0]
      by_cases h1 : (first xs).1 = 1
      · rw [if_pos h1]
        -- the frame's bytes lie in what was handed over
        obtain ⟨w, m1, e1, e2, e3, e4⟩ := ho.itm hm (false, v) (by omega) (N := m0.next) hnx hno
        have hm1 : m1.lo ≤ m1.next := by rw [e4.lo]; omega
        obtain ⟨vr, r1, r2⟩ := hb.cut_at (hg.trans e4) (a := (first xs).2.1) (b := xs.length) g1 (Nat.le_refl _) (some (.int .i64 ((first xs).2.1 : Int))) none (aLo_int g1) rfl
        rw [List.take_length] at r2
        have hco : Co m0 (fun _ => False) v (first xs).2.2 := f2.rd
        have hb2 := build_item false hco.single
        have hb3 : aBuild [(0, 1), (1, 1)] [.bool false, .slice none 0 0] [(1, v)] = some (.agg #[.bool false, v]) := by
          obtain ⟨s1, s2⟩ := hco.single
          have : v.cells.size = 1 := by rw [← Array.length_toList, s2]; rfl
          simp [aBuild, fillL, s1, s2, this, putL]
        have hits : Its m0 (fun _ => False) (ws ++ [(false, v)]) (its ++ [⟨false, (first xs).2.2⟩]) := Its.snoc (b := false) (it := ⟨false, (first xs).2.2⟩) rfl hco hi
        have hlen : (xs.drop (first xs).2.1).length = xs.length - (first xs).2.1 := List.length_drop
        have hp := g2 h1
        obtain ⟨m', vl', w', ol', ws', d1, d2, d3, d4, d5, d6, d7⟩ := ih (xs.drop (first xs).2.1) (its ++ [⟨false, (first xs).2.2⟩]) m1 vr w (m.next + 1) (ws ++ [(false, v)]) (by omega) (by simp only [List.length_append, List.length_singleton]; omega) (fun c hc => hx c (List.mem_of_mem_drop hc)) r2 (hg.trans e4) (by have := e4.next; omega) hm1 e2 (fun h => by omega) hits
        refine ⟨m', vl', w', ol', ws', ?_, d2, d3, d4, d5, d6, d7⟩
        rcases d1 with ⟨b', d1, dw⟩ | ⟨b', o', d1⟩
        · refine .inl ⟨b', Q700 gv1 ?_, dw⟩
          simp [y700, hbm.len, hne, f1, h1, hb3, e1, r1, d1]
        · refine .inr ⟨b', o', Q700 gv1 ?_⟩
          simp [y700, hbm.len, hne, f1, h1, hb3, e1, r1, d1]
      · rw [if_neg h1]
        obtain ⟨w, m1, e1, e2, e3, e4⟩ := ho.itm hm (true, .slice none 0 0) (by omega) (N := m0.next) hnx hno
        have hm1 : m1.lo ≤ m1.next := by rw [e4.lo]; omega
        have hb3 : aBuild [(0, 1), (1, 1)] [.bool false, .slice none 0 0] [(0, .bool true)] = some (.agg #[.bool true, .slice none 0 0]) := rfl
        have hits : Its m0 (fun _ => False) (ws ++ [(true, .slice none 0 0)]) (its ++ [⟨true, []⟩]) := Its.snoc (b := true) (it := ⟨true, []⟩) rfl (.inl ⟨rfl, .inl rfl⟩) hi
        have hb1 := hb.mono (hg.trans e4).ge
        have hsl := skip_loop hb1 (by omega) (.slice none 0 0) (.slice none 0 0) w (xs.length - (first xs).2.1) (first xs).2.1 (by omega)
        have hsle := skipTo_le xs g1
        by_cases he : skipTo xs (first xs).2.1 = xs.length
        · rw [if_pos he]
          refine ⟨m1, w, .slice none 0 0, m.next + 1, ws ++ [(true, .slice none 0 0)], .inr ⟨b, w, Q700 gv1 ?_⟩, hg.trans e4, by have := e4.next; omega, hm1, e2, hits, .inl ⟨rfl, rfl⟩⟩
          rw [he] at hsl
          simp [y700, hbm.len, hb1.len, hne, f1, h0, h1, hb3, e1, hsl]
        · rw [if_neg he]
          have hcast : ((skipTo xs (first xs).2.1 + 1 : Nat) : Int) = (skipTo xs (first xs).2.1 : Int) + 1 := by omega
          obtain ⟨vr, r1, r2⟩ := hb.cut_at (hg.trans e4) (a := skipTo xs (first xs).2.1 + 1) (b := xs.length) (by omega) (Nat.le_refl _) (some (.int .i64 ((skipTo xs (first xs).2.1 + 1 : Nat) : Int))) none (aLo_int (by omega)) rfl
          rw [List.take_length] at r2
          rw [hcast] at r1
          have hlen : (xs.drop (skipTo xs (first xs).2.1 + 1)).length = xs.length - (skipTo xs (first xs).2.1 + 1) := List.length_drop
          have hw : IntKind.wrap .i64 ((skipTo xs (first xs).2.1 : Int) + 1) = (skipTo xs (first xs).2.1 : Int) + 1 := wrap_i64 (by omega) (by omega)
          have hne2 : ¬ ((skipTo xs (first xs).2.1 : Int) = xs.length) := by omega
          obtain ⟨m', vl', w', ol', ws', d1, d2, d3, d4, d5, d6, d7⟩ := ih (xs.drop (skipTo xs (first xs).2.1 + 1)) (its ++ [⟨true, []⟩]) m1 vr w (m.next + 1) (ws ++ [(true, .slice none 0 0)]) (by omega) (by simp only [List.length_append, List.length_singleton]; omega) (fun c hc => hx c (List.mem_of_mem_drop hc)) r2 (hg.trans e4) (by have := e4.next; omega) hm1 e2 (fun h => by omega) hits
          refine ⟨m', vl', w', ol', ws', ?_, d2, d3, d4, d5, d6, d7⟩
          rcases d1 with ⟨b', d1, dw⟩ | ⟨b', o', d1⟩
          · refine .inl ⟨b', Q700 gv1 ?_, dw⟩
            simp [y700, hbm.len, hb1.len, hne, f1, h0, h1, hb3, e1, hsl, hne2, hw, r1, d1]
          · refine .inr ⟨b', o', Q700 gv1 ?_⟩
            simp [y700, hbm.len, hb1.len, hne, f1, h0, h1, hb3, e1, hsl, hne2, hw, r1, d1]
theorem splits_run {m : Mem} (hm : m.lo ≤ m.next) (b : Value) (xs : List Int) (hx : ∀ c ∈ xs, 0 ≤ c ∧ c ≤ 255) (hxl : xs.length ≤ 1100000) (hb : By m b xs) :
    ∃ m', L (CC gv1) (.call 3) [b] m [] = some ⟨.ret, [.bool true], m', []⟩ := by
  obtain ⟨v, vs, w, m1, a1, a2, a3, a4, a5⟩ := split_run gv1 NoW1 hm b xs hx (by omega) hb.rd
  have hm1 : m1.lo ≤ m1.next := by have := a2.next; rw [a2.lo]; omega
  obtain ⟨m2, vl, w2, ol, ws, c1, c2, c3, c4, c5, c6, c7⟩ := rsplit_loop m1 xs.length xs [] m1 b (.slice none 0 0) 0 [] (Nat.le_refl _) (by simp only [List.length_nil]; omega) hx (hb.mono a2) (.refl _ _) (Nat.le_refl _) hm1 Ow.nil (fun _ => rfl) trivial
  have hsp : L (CC gv1) (.call 7) [b] m1 [] = some ⟨.ret, [.tuple #[vl, w2]], m2, []⟩ := by
    refine R7 gv1 rfl ?_
    rcases c1 with ⟨b', c1, rfl⟩ | ⟨b', o', c1⟩ <;> simp [x7, c1]
  obtain ⟨s1, s2⟩ := split_same xs.length xs [] (Nat.le_refl _)
  have s1' : (Sp.new.run xs).out = (rsplit xs.length xs []).1 := s1
  have s2' : (Sp.new.run xs).held = (rsplit xs.length xs []).2 := s2
  rw [← s1'] at c6
  rw [← s2'] at c7
  have hrl := Sp.run_out Sp.new xs
  have hno : (Sp.new).out.length = 0 := rfl
  rw [hno] at hrl
  have hvl := a4.length
  obtain ⟨v3, m3, e1, e2, e3⟩ := back_run gv1 rfl (a3.mono c2.ge) a4.sing (by omega) c4
  have hg := c2.ge.trans e2
  have it := items_run gv1 rfl rfl e3 ((Ow.toSl (enc := iE) (fun _ => rfl) rfl c5).mono e2) (a4.ge hg) (c6.ge hg) (by omega) (fun i hi => by have := Sp.new_items xs i hi; omega)
  have hh := Sp.new_held xs
  have sm := same_yes gv1 rfl (a5.ge hg) (c7.rd.ge hg) (by omega)
  refine ⟨m3, R3 gv1 rfl ?_⟩
  simp [x3, a1, hsp, e1, it, sm, alive_given]
end Go.Proofs.Ythihiidooomdnaa.D
