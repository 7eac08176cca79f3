/-
  The document's number, parts and time.
  The document's time, and both Parse and Amount.
  Parse and Amount, the program's and the document's.
  The document's Parse; Amount, the program's and the document's.
  The law ClockParses.
-/
import Derived.Test.YtbccdlbibcbcfaaDoorCA
namespace Go.Proofs.YtbccdlbibcbcfaaDoor.D
open Go.RowKit
set_option linter.unusedVariables false
set_option linter.unusedSimpArgs false
theorem rnum_loop {l : List UInt8} (hl : l.length ≤ 3) (most : Value) (m : Mem) : ∀ (k i n : Nat), i + k = l.length → n < 10 ^ i →
    ((l.drop i).all isD = true → LV CV (.loop 2800) [S l, most, .int .i64 0, .int .i64 n, .int .i64 i] m [] = some ⟨.exit 0, [S l, most, .int .i64 0, .int .i64 (valF n (l.drop i)), .int .i64 l.length], m, []⟩) ∧
    ((l.drop i).all isD = false → ∃ a b, LV CV (.loop 2800) [S l, most, .int .i64 0, .int .i64 n, .int .i64 i] m [] = some ⟨.ret, [S l, most, .int .i64 (-1), a, b], m, []⟩) := by
  intro k
  induction k with
  | zero =>
    intro i n hi hn
    obtain rfl : i = l.length := by omega
    rw [List.drop_length]
    refine ⟨fun _ => Q2800 ?_, fun h => by simp at h⟩
    simp [y2800, valF_nil]
  | succ k ih =>
    intro i n hi hn
    have hlt : i < l.length := by omega
    have hb := l[i].toNat_lt
    have hw : IntKind.wrap .i64 ((i : Int) + 1) = (i : Int) + 1 := wrap_i64 (by omega) (by omega)
    have hd : l.drop i = l[i] :: l.drop (i + 1) := List.drop_eq_getElem_cons hlt
    rw [hd]
    by_cases h1 : l[i].toNat < 48
    · have h1' : (l[i].toNat : Int) < 48 := by omega
      have hD : isD l[i] = false := by simp [isD]; omega
      refine ⟨fun h => (by rw [List.all_cons, hD] at h; simp at h), fun _ => ⟨.int .i64 n, .int .i64 i, Q2800 ?_⟩⟩
      simp [y2800, hlt, h1, h1']
    · have h1' : ¬ (l[i].toNat : Int) < 48 := by omega
      by_cases h2 : 57 < l[i].toNat
      · have h2' : (57 : Int) < l[i].toNat := by omega
        have hD : isD l[i] = false := by simp [isD]; omega
        refine ⟨fun h => (by rw [List.all_cons, hD] at h; simp at h), fun _ => ⟨.int .i64 n, .int .i64 i, Q2800 ?_⟩⟩
        simp [y2800, hlt, h1, h1', h2, h2']
      · have h2' : ¬ (57 : Int) < l[i].toNat := by omega
        have hD : isD l[i] = true := by simp [isD]; omega
        have hp : (10 : Nat) ^ i ≤ 100 := by
          have : i ≤ 2 := by omega
          calc (10 : Nat) ^ i ≤ 10 ^ 2 := Nat.pow_le_pow_right (by decide) this
            _ = 100 := by decide
        have e0 : (l[i].toNat : Int) - 48 = ((l[i].toNat - 48 : Nat) : Int) := by omega
        have w1 : IntKind.wrap .u8 ((l[i].toNat - 48 : Nat) : Int) = ((l[i].toNat - 48 : Nat) : Int) := wrap_u8 (by omega) (by omega)
        have w2 : IntKind.wrap .i64 ((l[i].toNat - 48 : Nat) : Int) = ((l[i].toNat - 48 : Nat) : Int) := wrap_i64 (by omega) (by omega)
        have w3 : IntKind.wrap .i64 ((n : Int) * 10) = (n : Int) * 10 := wrap_i64 (by omega) (by omega)
        have w4 : IntKind.wrap .i64 ((n : Int) * 10 + ((l[i].toNat - 48 : Nat) : Int)) = ((n * 10 + (l[i].toNat - 48) : Nat) : Int) := by rw [wrap_i64 (by omega) (by omega)]; omega
        simp only [valF_cons, List.all_cons, hD, Bool.true_and]
        have hN2 : n * 10 + (l[i].toNat - 48) < 10 ^ (i + 1) := by rw [Nat.pow_succ]; omega
        generalize hN : n * 10 + (l[i].toNat - 48) = N at *
        obtain ⟨i1, i2⟩ := ih (i + 1) N (by omega) hN2
        rw [Int.natCast_add, Int.natCast_one] at i1 i2
        refine ⟨fun h => Q2800 ?_, fun h => ?_⟩
        · have e := i1 h
          simp only [y2800]
          simp [hlt, h1', h2', e0, w1, w2, w3, w4, hw, e]
        · obtain ⟨a, b, e⟩ := i2 h
          refine ⟨a, b, Q2800 ?_⟩
          simp only [y2800]
          simp [hlt, h1', h2', e0, w1, w2, w3, w4, hw, e]
theorem rnum_V {l : List UInt8} (hl : l.length < 1000000000) (least many most : Nat) (hm : many ≤ 3) (m : Mem) : LV CV (.call 28) [S l, .int .i64 least, .int .i64 many, .int .i64 most] m [] = some ⟨.ret, [.int .i64 (numI least many most l)], m, []⟩ := by
  refine R28 ?_
  unfold numI numP
  by_cases h1 : l.length < least
  · have h1' : (l.length : Int) < least := by omega
    have hn : ¬ least ≤ l.length := by omega
    simp [x28, h1', hn]
  · have h1' : ¬ (l.length : Int) < least := by omega
    have hn : least ≤ l.length := by omega
    by_cases h2 : many < l.length
    · have h2' : (many : Int) < l.length := by omega
      have hn2 : ¬ l.length ≤ many := by omega
      simp [x28, h1', h2', hn2]
    · have h2' : ¬ (many : Int) < l.length := by omega
      have hn2 : l.length ≤ many := by omega
      obtain ⟨i1, i2⟩ := rnum_loop (l := l) (by omega) (.int .i64 most) ⟨[], m.next, m.next, 0⟩ l.length 0 0 (by omega) (by decide)
      simp only [List.drop_zero, Int.natCast_zero] at i1 i2
      cases hd : l.all isD with
      | false =>
        obtain ⟨a, b, e⟩ := i2 hd
        simp [x28, h1', h2', e]
      | true =>
        have e := i1 hd
        by_cases h3 : most < valF 0 l
        · have h3' : (most : Int) < valF 0 l := by omega
          have hn3 : ¬ valF 0 l ≤ most := by omega
          simp [x28, h1', h2', e, h3', hn3]
        · have h3' : ¬ (most : Int) < valF 0 l := by omega
          have hn3 : valF 0 l ≤ most := by omega
          simp [x28, h1', h2', e, h3', hn, hn2, hn3]
/-- The parts of what is left, with what was taken since the last colon. -/
def partsA (acc : List UInt8) : List UInt8 → List (List UInt8)
  | [] => [acc]
  | b :: t => if b = 58 then acc :: partsA [] t else partsA (acc ++ [b]) t
theorem partsA_eq : ∀ (l acc : List UInt8), partsA acc l = match splitC 58 l with | h :: r => (acc ++ h) :: r | [] => [acc] := by
  intro l
  induction l with
  | nil => intro acc; simp [partsA, splitC]
  | cons b t ih =>
    intro acc
    simp only [partsA]
    rw [splitC_cons]
    obtain ⟨h, r, e⟩ := splitC_ne 58 t
    by_cases hb : b = 58
    · rw [if_pos hb, if_pos hb, ih, e]; simp
    · rw [if_neg hb, if_neg hb, ih, e]; simp
theorem parts_loop {s : List UInt8} (hs : s.length < 1000000) : ∀ (k i f : Nat) (m : Mem) (v : Value) (out : List (List UInt8)), i + k = s.length → f ≤ i → out.length ≤ i → Own m v 1 (out.map es) →
    ∃ m' v' x y, LV CV (.loop 2700) [S s, v, .int .i64 f, .int .i64 i] m [] = some ⟨.exit 0, [S s, v', x, y], m', []⟩ ∧ Own m' v' 1 ((out ++ partsA ((s.take i).drop f) (s.drop i)).map es) ∧ m'.lo = m.lo := by
  intro k
  induction k with
  | zero =>
    intro i f m v out hi hf ho h
    obtain rfl : i = s.length := by omega
    have hw : IntKind.wrap .i64 ((s.length : Int) + 1) = (s.length : Int) + 1 := wrap_i64 (by omega) (by omega)
    have hle : (f : Int) ≤ s.length := by omega
    obtain ⟨v1, m1, e1, o1, k1⟩ := h.app1 (tt := true) (x := es (s.drop f)) rfl (b := 16) (by simp; omega) (by simp; omega)
    have hgt : ¬ (s.length : Int) + 1 ≤ s.length := by omega
    have hend : LV CV (.loop 2700) [S s, v1, .int .i64 ((s.length : Int) + 1), .int .i64 ((s.length : Int) + 1)] m1 [] = some ⟨.exit 0, [S s, v1, .int .i64 ((s.length : Int) + 1), .int .i64 ((s.length : Int) + 1)], m1, []⟩ := by
      refine Q2700 ?_
      simp [y2700, hgt]
    refine ⟨m1, v1, _, _, Q2700 (r := ⟨.exit 0, [S s, v1, .int .i64 ((s.length : Int) + 1), .int .i64 ((s.length : Int) + 1)], m1, []⟩) ?_, ?_, k1.lo⟩
    · simp only [es] at e1
      simp [y2700, hle, hf, e1, hw, hend]
    · simp only [List.drop_length, List.take_length, partsA, List.map_append, List.map_cons, List.map_nil]
      exact o1
  | succ k ih =>
    intro i f m v out hi hf ho h
    have hlt : i < s.length := by omega
    have hle : (i : Int) ≤ s.length := by omega
    have hne : ¬ (i : Int) = s.length := by omega
    have hne2 : ¬ i = s.length := by omega
    have hw : IntKind.wrap .i64 ((i : Int) + 1) = (i : Int) + 1 := wrap_i64 (by omega) (by omega)
    have hd : s.drop i = s[i] :: s.drop (i + 1) := List.drop_eq_getElem_cons hlt
    have ht : s.take (i + 1) = s.take i ++ [s[i]] := by rw [List.take_add_one]; simp [hlt]
    have hc : ((s[i].toNat : Int) = 58) = (s[i] = 58) := propext ⟨fun h => UInt8.toNat_inj.1 (by show s[i].toNat = 58; omega), fun h => by rw [h]; rfl⟩
    have hc2 : (s[i].toNat = 58) = (s[i] = 58) := propext ⟨fun h => UInt8.toNat_inj.1 (by show s[i].toNat = 58; omega), fun h => by rw [h]; rfl⟩
    rw [hd]
    simp only [partsA]
    by_cases hb : s[i] = 58
    · rw [if_pos hb]
      obtain ⟨v1, m1, e1, o1, k1⟩ := h.app1 (tt := true) (x := es ((s.take i).drop f)) rfl (b := 16) (by simp; omega) (by simp; omega)
      obtain ⟨m2, v2, x, y, e2, o2, k2⟩ := ih (i + 1) (i + 1) m1 v1 (out ++ [(s.take i).drop f]) (by omega) (Nat.le_refl _) (by simp; omega) (by simpa using o1)
      rw [Int.natCast_add, Int.natCast_one] at e2
      have hfi : (f : Int) ≤ i := by omega
      refine ⟨m2, v2, x, y, Q2700 ?_, ?_, by rw [k2, k1.lo]⟩
      · simp only [es] at e1
        have hile : i ≤ s.length := by omega
        simp [y2700, hlt, hle, hile, hne, hne2, hfi, hf, hc, hc2, hb, hw, e1, e2]
      · have e3 : (s.take (i + 1)).drop (i + 1) = [] := List.drop_of_length_le (by simp; omega)
        rw [e3] at o2
        simpa using o2
    · rw [if_neg hb]
      obtain ⟨m2, v2, x, y, e2, o2, k2⟩ := ih (i + 1) f m v out (by omega) (by omega) (by omega) h
      rw [Int.natCast_add, Int.natCast_one] at e2
      refine ⟨m2, v2, x, y, Q2700 ?_, ?_, k2⟩
      · simp only [y2700]
        simp [hlt, hle, hne, hne2, hc, hc2, hb, hw, e2]
      · have e3 : (s.take (i + 1)).drop f = (s.take i).drop f ++ [s[i]] := by
          rw [ht, List.drop_append_of_le_length (by simp; omega)]
        rw [e3] at o2
        exact o2
theorem rparts_V {s : List UInt8} (hs : s.length < 1000000) (m : Mem) : LV CV (.call 27) [S s] m [] = some ⟨.ret, [sq false false 1 ((splitC 58 s).map es)], m, []⟩ := by
  obtain ⟨m', v', x, y, e, o, hlo⟩ := parts_loop hs s.length 0 0 ⟨[], m.next, m.next, 0⟩ (.slice none 0 0) [] (by omega) (Nat.le_refl _) (by simp) (Own.nil (Nat.le_refl _))
  simp only [Int.natCast_zero, List.drop_zero, List.take_zero, List.nil_append] at e o
  have hp : partsA [] s = splitC 58 s := by
    rw [partsA_eq]
    obtain ⟨h, r, e⟩ := splitC_ne 58 s
    rw [e]; simp
  rw [hp] at o
  have hf := o.frz (k := 17) (n0 := m.next) (Cls.es _) (by rw [hlo]; exact Nat.le_refl _)
  refine R27 ?_
  simp [x27, e, hf]
theorem numI_ge (least many most : Nat) (l : List UInt8) : -1 ≤ numI least many most l ∧ numI least many most l ≤ most := by
  unfold numI
  cases h : numP least many most l with
  | none => simp only; omega
  | some v => have := numP_le h; simp only; omega
def xI (p : List (List UInt8)) (i : Nat) : Int := match p[i]? with | some q => numI 2 2 59 q | none => 0
theorem xI_ge (p : List (List UInt8)) (i : Nat) : -1 ≤ xI p i ∧ xI p i ≤ 59 := by
  unfold xI
  split
  · exact numI_ge 2 2 59 _
  · omega
theorem rt_step {p : List (List UInt8)} (hp : ∀ q ∈ p, q.length < 1000000000) {i : Nat} (hi : i < 3) {n : Int} (h1 : -1000000 ≤ n) (h2 : n ≤ 1000000) (bad : Bool) {low : Value} {m : Mem} {r : Out}
    (h : LV CV (.loop 2000) [low, sq false false 1 (p.map es), .int .i64 (n * 60 + xI p i), .bool (bad || decide (xI p i < 0)), .int .i64 ((i : Int) + 1)] m [] = some r) :
    LV CV (.loop 2000) [low, sq false false 1 (p.map es), .int .i64 n, .bool bad, .int .i64 i] m [] = some r := by
  have hi' : (i : Int) < 3 := by omega
  have hw : IntKind.wrap .i64 ((i : Int) + 1) = (i : Int) + 1 := wrap_i64 (by omega) (by omega)
  have w1 : IntKind.wrap .i64 (n * 60) = n * 60 := wrap_i64 (by omega) (by omega)
  obtain ⟨x1, x2⟩ := xI_ge p i
  have w2 : IntKind.wrap .i64 (n * 60 + xI p i) = n * 60 + xI p i := wrap_i64 (by omega) (by omega)
  refine Q2000 ?_
  by_cases hl : i < p.length
  · have hl' : (i : Int) < p.length := by omega
    have hx : xI p i = numI 2 2 59 p[i] := by unfold xI; rw [List.getElem?_eq_getElem hl]
    have hnum := rnum_V (l := p[i]) (hp _ (List.getElem_mem hl)) 2 2 59 (by omega)
    rw [← hx] at hnum
    simp only [Int.cast_ofNat_Int] at hnum
    simp only [y2000]
    generalize xI p i = X at *
    cases bad with
    | true => simp [hi', hl, hl', es, hnum, hw, w1, w2]; simpa using h
    | false => simp [hi', hl, hl', es, hnum, hw, w1, w2]; simpa using h
  · have hl' : ¬ (i : Int) < p.length := by omega
    have hx : xI p i = 0 := by unfold xI; rw [List.getElem?_eq_none (by omega)]
    rw [hx] at h
    simp only [y2000]
    cases bad with
    | true => simp [hi', hl, hl', hw, w1]; simpa using h
    | false => simp [hi', hl, hl', hw, w1]; simpa using h
theorem secI (a : List UInt8) (ps : List (List UInt8)) (h : ps.length ≤ 2) : (if (decide (numI 1 3 167 a < 0) || decide (xI (a :: ps) 1 < 0) || decide (xI (a :: ps) 2 < 0)) = true then (none : Option Int) else some ((numI 1 3 167 a * 60 + xI (a :: ps) 1) * 60 + xI (a :: ps) 2)) = (secP (a :: ps)).map fun n => (n : Int) := by
  match ps, h with
  | [], _ => cases h1 : numP 1 3 167 a <;> simp [secP, xI, numI, h1] <;> omega
  | [b], _ => cases h1 : numP 1 3 167 a <;> cases h2 : numP 2 2 59 b <;> simp [secP, xI, numI, h1, h2] <;> omega
  | [b, c], _ => cases h1 : numP 1 3 167 a <;> cases h2 : numP 2 2 59 b <;> cases h3 : numP 2 2 59 c <;> simp [secP, xI, numI, h1, h2, h3] <;> omega
def refR (s : List UInt8) : Value := match timeP s with | some n => .tuple #[.int .i64 n, .bool true] | none => .tuple #[.int .i64 0, .bool false]
theorem splitC_part (c : UInt8) : ∀ (l : List UInt8), ∀ q ∈ splitC c l, q.length ≤ l.length := by
  intro l
  induction l with
  | nil => intro q hq; simp [splitC] at hq; subst hq; simp
  | cons b t ih =>
    intro q hq
    rw [splitC_cons] at hq
    by_cases h : b = c
    · rw [if_pos h] at hq
      rcases List.mem_cons.1 hq with rfl | hq
      · simp
      · have := ih q hq; simp; omega
    · rw [if_neg h] at hq
      obtain ⟨x, r, e⟩ := splitC_ne c t
      rw [e] at hq ih
      simp only at hq
      rcases List.mem_cons.1 hq with rfl | hq
      · have := ih x (by simp); simp; omega
      · have := ih q (by simp [hq]); simp; omega
end Go.Proofs.YtbccdlbibcbcfaaDoor.D

namespace Go.Proofs.YtbccdlbibcbcfaaDoor.D
open Go.RowKit
set_option linter.unusedVariables false
set_option linter.unusedSimpArgs false
theorem rt_loop {t a : List UInt8} {ps : List (List UInt8)} (ht : t.length < 1000000) (e : splitC 58 t = a :: ps) (low : Value) (m : Mem) :
    LV CV (.loop 2000) [low, sq false false 1 ((a :: ps).map es), .int .i64 (numI 1 3 167 a), .bool (decide (numI 1 3 167 a < 0)), .int .i64 1] m [] =
      some ⟨.exit 0, [low, sq false false 1 ((a :: ps).map es), .int .i64 ((numI 1 3 167 a * 60 + xI (a :: ps) 1) * 60 + xI (a :: ps) 2), .bool (decide (numI 1 3 167 a < 0) || decide (xI (a :: ps) 1 < 0) || decide (xI (a :: ps) 2 < 0)), .int .i64 3], m, []⟩ := by
  have hp : ∀ q ∈ a :: ps, q.length < 1000000000 := fun q hq => by have := splitC_part 58 t q (by rw [e]; exact hq); omega
  have n1 := numI_ge 1 3 167 a
  have x1 := xI_ge (a :: ps) 1
  have x2 := xI_ge (a :: ps) 2
  have h3 : ∀ (n b : Value), LV CV (.loop 2000) [low, sq false false 1 ((a :: ps).map es), n, b, .int .i64 3] m [] = some ⟨.exit 0, [low, sq false false 1 ((a :: ps).map es), n, b, .int .i64 3], m, []⟩ := fun n b => by
    refine Q2000 ?_
    simp [y2000]
  exact rt_step hp (i := 1) (by omega) (by omega) (by omega) _ (rt_step hp (i := 2) (by omega) (by omega) (by omega) _ (h3 _ _))
theorem rtime_V {s : List UInt8} (hs : s.length < 1000000) (m : Mem) : LV CV (.call 20) [S s] m [] = some ⟨.ret, [refR s], m, []⟩ := by
  refine R20 ?_
  generalize hM : (⟨[], m.next, m.next, 0⟩ : Mem) = M
  by_cases h45 : s = [45]
  · subst h45
    have hr : refR [45] = .tuple #[.int .i64 0, .bool true] := rfl
    rw [hr]
    simp [x20]
  · match s, hs, h45 with
    | [], hs, h45 =>
      obtain ⟨a, ps, e⟩ := splitC_ne 58 (([] : List UInt8))
      have hP := fun m => rparts_V (s := ([] : List UInt8)) (by simp) m
      have hal := splitC_part 58 (([] : List UInt8)) a (by rw [e]; simp)
      have hN := fun m => rnum_V (l := a) (by simp only [List.length_cons, List.length_nil] at hs hal; omega) 1 3 167 (by omega) m
      have hL := fun low m => rt_loop (t := ([] : List UInt8)) (by simp) e low m
      rw [e] at hP
      simp only [Int.cast_ofNat_Int, Int.natCast_one, List.map_cons] at hN hP hL
      have hR : refR ([]) = (match secP (a :: ps) with | some n => .tuple #[.int .i64 ((n : Int)), .bool true] | none => .tuple #[.int .i64 0, .bool false]) := by
        unfold refR timeP
        rw [if_neg (by simp), if_neg (by simp)]
        rw [e]
        cases secP (a :: ps) <;> simp
      rw [hR]
      by_cases h2 : ps.length ≤ 2
      · have h2' : ¬ (3 : Int) < (ps.length : Int) + 1 := by omega
        have hsec := secI a ps h2
        have b0 := numI_ge 1 3 167 a
        have b1 := xI_ge (a :: ps) 1
        have b2 := xI_ge (a :: ps) 2
        have hbN : -100000000 ≤ (numI 1 3 167 a * 60 + xI (a :: ps) 1) * 60 + xI (a :: ps) 2 ∧ (numI 1 3 167 a * 60 + xI (a :: ps) 1) * 60 + xI (a :: ps) 2 ≤ 100000000 := by omega
        generalize (decide (numI 1 3 167 a < 0) || decide (xI (a :: ps) 1 < 0) || decide (xI (a :: ps) 2 < 0)) = bad at *
        generalize (numI 1 3 167 a * 60 + xI (a :: ps) 1) * 60 + xI (a :: ps) 2 = N at *
        have w2 : IntKind.wrap .i64 (0 - N) = -N := by rw [wrap_i64 (by omega) (by omega)]; omega
        have w3 : IntKind.wrap .i64 (-N) = -N := wrap_i64 (by omega) (by omega)
        generalize numI 1 3 167 a = I0 at *
        cases bad with
        | true =>
          have hno : secP (a :: ps) = none := by cases hq : secP (a :: ps) with | none => rfl | some v => rw [hq] at hsec; simp at hsec
          rw [hno]
          simp [x20, hP, hN, hL, h2', h45, aUn_neg]
        | false =>
          obtain ⟨v, hv, hvN⟩ : ∃ v : Nat, secP (a :: ps) = some v ∧ N = v := by
            cases hq : secP (a :: ps) with
            | none => rw [hq] at hsec; simp at hsec
            | some v => rw [hq] at hsec; simp at hsec; exact ⟨v, rfl, hsec⟩
          rw [hv]
          subst hvN
          simp [x20, hP, hN, hL, h2', h45, aUn_neg, w2, w3]
      · have h2' : (3 : Int) < (ps.length : Int) + 1 := by omega
        have hno : secP (a :: ps) = none := secP_many _ (by simp; omega)
        rw [hno]
        simp [x20, hP, hN, h2', h45]
    | c :: t, hs, h45 =>
      by_cases hc : c = 45
      · subst hc
        have hl1 : (1 : Int) ≤ (t.length : Int) + 1 := by omega
        obtain ⟨a, ps, e⟩ := splitC_ne 58 (t)
        have hP := fun m => rparts_V (s := t) (by simp at hs; omega) m
        have hal := splitC_part 58 (t) a (by rw [e]; simp)
        have hN := fun m => rnum_V (l := a) (by simp only [List.length_cons, List.length_nil] at hs hal; omega) 1 3 167 (by omega) m
        have hL := fun low m => rt_loop (t := t) (by simp at hs; omega) e low m
        rw [e] at hP
        simp only [Int.cast_ofNat_Int, Int.natCast_one, List.map_cons] at hN hP hL
        have hR : refR (45 :: t) = (match secP (a :: ps) with | some n => .tuple #[.int .i64 (-(n : Int)), .bool true] | none => .tuple #[.int .i64 0, .bool false]) := by
          unfold refR timeP
          rw [if_neg h45, if_pos (by simp)]
          simp only [List.drop_succ_cons, List.drop_zero]
          rw [e]
          cases secP (a :: ps) <;> simp
        rw [hR]
        by_cases h2 : ps.length ≤ 2
        · have h2' : ¬ (3 : Int) < (ps.length : Int) + 1 := by omega
          have hsec := secI a ps h2
          have b0 := numI_ge 1 3 167 a
          have b1 := xI_ge (a :: ps) 1
          have b2 := xI_ge (a :: ps) 2
          have hbN : -100000000 ≤ (numI 1 3 167 a * 60 + xI (a :: ps) 1) * 60 + xI (a :: ps) 2 ∧ (numI 1 3 167 a * 60 + xI (a :: ps) 1) * 60 + xI (a :: ps) 2 ≤ 100000000 := by omega
          generalize (decide (numI 1 3 167 a < 0) || decide (xI (a :: ps) 1 < 0) || decide (xI (a :: ps) 2 < 0)) = bad at *
          generalize (numI 1 3 167 a * 60 + xI (a :: ps) 1) * 60 + xI (a :: ps) 2 = N at *
          have w2 : IntKind.wrap .i64 (0 - N) = -N := by rw [wrap_i64 (by omega) (by omega)]; omega
          have w3 : IntKind.wrap .i64 (-N) = -N := wrap_i64 (by omega) (by omega)
          generalize numI 1 3 167 a = I0 at *
          cases bad with
          | true =>
            have hno : secP (a :: ps) = none := by cases hq : secP (a :: ps) with | none => rfl | some v => rw [hq] at hsec; simp at hsec
            rw [hno]
            simp [x20, hl1, hP, hN, hL, h2', h45, aUn_neg]
          | false =>
            obtain ⟨v, hv, hvN⟩ : ∃ v : Nat, secP (a :: ps) = some v ∧ N = v := by
              cases hq : secP (a :: ps) with
              | none => rw [hq] at hsec; simp at hsec
              | some v => rw [hq] at hsec; simp at hsec; exact ⟨v, rfl, hsec⟩
            rw [hv]
            subst hvN
            simp [x20, hl1, hP, hN, hL, h2', h45, aUn_neg, w2, w3]
        · have h2' : (3 : Int) < (ps.length : Int) + 1 := by omega
          have hno : secP (a :: ps) = none := secP_many _ (by simp; omega)
          rw [hno]
          simp [x20, hl1, hP, hN, h2', h45]
      · have hc1 : ¬ (c.toNat : Int) = 45 := fun h => hc (UInt8.toNat_inj.1 (by show c.toNat = 45; omega))
        have hc2 : ¬ c.toNat = 45 := fun h => hc (UInt8.toNat_inj.1 (by show c.toNat = 45; omega))
        obtain ⟨a, ps, e⟩ := splitC_ne 58 (c :: t)
        have hP := fun m => rparts_V (s := c :: t) (hs) m
        have hal := splitC_part 58 (c :: t) a (by rw [e]; simp)
        have hN := fun m => rnum_V (l := a) (by simp only [List.length_cons, List.length_nil] at hs hal; omega) 1 3 167 (by omega) m
        have hL := fun low m => rt_loop (t := c :: t) (hs) e low m
        rw [e] at hP
        simp only [Int.cast_ofNat_Int, Int.natCast_one, List.map_cons] at hN hP hL
        have hR : refR (c :: t) = (match secP (a :: ps) with | some n => .tuple #[.int .i64 ((n : Int)), .bool true] | none => .tuple #[.int .i64 0, .bool false]) := by
          unfold refR timeP
          rw [if_neg h45, if_neg (by simp; exact fun h => hc h.symm)]
          rw [e]
          cases secP (a :: ps) <;> simp
        rw [hR]
        by_cases h2 : ps.length ≤ 2
        · have h2' : ¬ (3 : Int) < (ps.length : Int) + 1 := by omega
          have hsec := secI a ps h2
          have b0 := numI_ge 1 3 167 a
          have b1 := xI_ge (a :: ps) 1
          have b2 := xI_ge (a :: ps) 2
          have hbN : -100000000 ≤ (numI 1 3 167 a * 60 + xI (a :: ps) 1) * 60 + xI (a :: ps) 2 ∧ (numI 1 3 167 a * 60 + xI (a :: ps) 1) * 60 + xI (a :: ps) 2 ≤ 100000000 := by omega
          generalize (decide (numI 1 3 167 a < 0) || decide (xI (a :: ps) 1 < 0) || decide (xI (a :: ps) 2 < 0)) = bad at *
          generalize (numI 1 3 167 a * 60 + xI (a :: ps) 1) * 60 + xI (a :: ps) 2 = N at *
          have w2 : IntKind.wrap .i64 (0 - N) = -N := by rw [wrap_i64 (by omega) (by omega)]; omega
          have w3 : IntKind.wrap .i64 (-N) = -N := wrap_i64 (by omega) (by omega)
          generalize numI 1 3 167 a = I0 at *
          cases bad with
          | true =>
            have hno : secP (a :: ps) = none := by cases hq : secP (a :: ps) with | none => rfl | some v => rw [hq] at hsec; simp at hsec
            rw [hno]
            simp [x20, hc1, hP, hN, hL, h2', h45, aUn_neg]
          | false =>
            obtain ⟨v, hv, hvN⟩ : ∃ v : Nat, secP (a :: ps) = some v ∧ N = v := by
              cases hq : secP (a :: ps) with
              | none => rw [hq] at hsec; simp at hsec
              | some v => rw [hq] at hsec; simp at hsec; exact ⟨v, rfl, hsec⟩
            rw [hv]
            subst hvN
            simp [x20, hc1, hP, hN, hL, h2', h45, aUn_neg, w2, w3]
        · have h2' : (3 : Int) < (ps.length : Int) + 1 := by omega
          have hno : secP (a :: ps) = none := secP_many _ (by simp; omega)
          rw [hno]
          simp [x20, hc1, hP, hN, h2', h45]
end Go.Proofs.YtbccdlbibcbcfaaDoor.D

namespace Go.Proofs.YtbccdlbibcbcfaaDoor.D
open Go.RowKit
set_option linter.unusedVariables false
set_option linter.unusedSimpArgs false
theorem snoc_cases (s : List UInt8) (h : 2 ≤ s.length) : ∃ d c, s = d ++ [c] ∧ 1 ≤ d.length := by
  have hne : s ≠ [] := by intro e; subst e; simp at h
  exact ⟨s.dropLast, s.getLast hne, (List.dropLast_concat_getLast hne).symm, by simp; omega⟩
theorem suf_short {s : List UInt8} (h : s.length < 2) : sufP s = (s, 0) := by unfold sufP; rw [if_pos h]
theorem suf_snoc (d : List UInt8) (c : UInt8) (h : 1 ≤ d.length) : sufP (d ++ [c]) = if c = 119 then (d, 0) else if c = 115 then (d, 1) else if c = 117 then (d, 2) else if c = 103 then (d, 2) else if c = 122 then (d, 2) else (d ++ [c], 0) := by
  unfold sufP
  rw [if_neg (by simp; omega)]
  simp only [List.getLast?_concat, List.dropLast_concat]
  by_cases h1 : c = 119
  · subst h1; rfl
  · rw [if_neg h1]
    by_cases h2 : c = 115
    · subst h2; rfl
    · rw [if_neg h2]
      by_cases h3 : c = 117
      · subst h3; rfl
      · rw [if_neg h3]
        by_cases h4 : c = 103
        · subst h4; rfl
        · rw [if_neg h4]
          by_cases h5 : c = 122
          · subst h5; rfl
          · rw [if_neg h5]
            split <;> simp_all
theorem byte_eq (c : UInt8) (k : Nat) (hk : k < 256) : ((c.toNat : Int) = k) = (c = UInt8.ofNat k) := propext ⟨fun h => UInt8.toNat_inj.1 (by rw [UInt8.toNat_ofNat']; omega), fun h => by rw [h, UInt8.toNat_ofNat']; omega⟩
theorem suffix_V {s : List UInt8} (hs : s.length < 1000000) (m : Mem) : LV CV (.call 18) [S s] m [] = some ⟨.ret, [.tuple #[S (sufP s).1, .int .i64 (sufP s).2]], m, []⟩ := by
  refine R18 ?_
  by_cases h : s.length < 2
  · have h' : (s.length : Int) < 2 := by omega
    rw [suf_short h]
    simp [x18, h']
  · obtain ⟨d, c, rfl, hd⟩ := snoc_cases s (by omega)
    rw [suf_snoc d c hd]
    have h' : ¬ (d.length : Int) + 1 < 2 := by omega
    have w : IntKind.wrap .i64 (d.length : Int) = d.length := by simp at hs; exact wrap_i64 (by omega) (by omega)
    have hle : (d.length : Int) ≤ (d.length : Int) + 1 := by omega
    have e1 := byte_eq c 119 (by omega)
    have e2 := byte_eq c 115 (by omega)
    have e3 := byte_eq c 117 (by omega)
    have e4 := byte_eq c 103 (by omega)
    have e5 := byte_eq c 122 (by omega)
    simp only [Int.cast_ofNat_Int] at e1 e2 e3 e4 e5
    change _ = (c = 119) at e1
    change _ = (c = 115) at e2
    change _ = (c = 117) at e3
    change _ = (c = 103) at e4
    change _ = (c = 122) at e5
    have hcl : ((c.toNat : Int)) = (c.toNat : Int) := rfl
    simp only [x18]
    by_cases h1 : c = 119
    · simp [h', w, hle, h1]
    · by_cases h2 : c = 115
      · simp [h', w, hle, h2]
      · by_cases h3 : c = 117
        · simp [h', w, hle, h3, cutN]
        · by_cases h4 : c = 103
          · simp [h', w, hle, h4, cutN]
          · by_cases h5 : c = 122
            · simp [h', w, hle, h5, cutN]
            · have f1 : ¬ (c.toNat : Int) = 119 := by rw [e1]; exact h1
              have f2 : ¬ (c.toNat : Int) = 115 := by rw [e2]; exact h2
              have f3 : ¬ (c.toNat : Int) = 117 := by rw [e3]; exact h3
              have f4 : ¬ (c.toNat : Int) = 103 := by rw [e4]; exact h4
              have f5 : ¬ (c.toNat : Int) = 122 := by rw [e5]; exact h5
              simp [h', w, hle, h1, h2, h3, h4, h5, f1, f2, f3, f4, f5, cutN]
theorem aSt_two {o : Nat} {m : Mem} {x y : Value} {a b : Int} (hg : m.get o = some ⟨0, [x, y]⟩) (hlo : m.lo ≤ o) : aSt 2 (.pointer (some ⟨o, 0, none⟩)) (.agg #[.int .i64 a, .int .i64 b]) m = some (m.set o ⟨0, [.int .i64 a, .int .i64 b]⟩) := by
  have h1 : known (.agg #[.int .i64 a, .int .i64 b]) = true := rfl
  have h2 : (Value.agg #[.int .i64 a, .int .i64 b]).cells = #[.int .i64 a, .int .i64 b] := rfl
  simp only [aSt, addr?, Option.bind_some, h1, h2, Mem.st, hg, if_pos hlo]
  rfl
theorem build00 : aBuild [(0, 1), (1, 1)] [(.int .i64 (0)), (.int .i64 (0))] [] = some (.agg #[.int .i64 0, .int .i64 0]) := rfl
theorem buildnk (n k : Int) : aBuild [(0, 1), (1, 1)] [(.int .i64 (0)), (.int .i64 (0))] [(0, .int .i64 n), (1, .int .i64 k)] = some (.agg #[.int .i64 n, .int .i64 k]) := rfl
def parseR (s : List UInt8) : Value := match parseP s with | some (n, k) => .tuple #[.agg #[.int .i64 n, .int .i64 k], .int .i64 0] | none => .tuple #[.agg #[.int .i64 0, .int .i64 0], .int .i64 7]
theorem suf_len (s : List UInt8) : (sufP s).1.length ≤ s.length := by
  by_cases h : s.length < 2
  · rw [suf_short h]; exact Nat.le_refl _
  · obtain ⟨d, c, rfl, hd⟩ := snoc_cases s (by omega)
    rw [suf_snoc d c hd]
    repeat' split
    all_goals simp
theorem parse_V {s : List UInt8} (hs : s.length < 1000000) (m : Mem) : LV CV (.call 9) [S s] m [] = some ⟨.ret, [parseR s], m, []⟩ := by
  refine R9 ?_
  have h1 := fun m => suffix_V hs m
  have hl := suf_len s
  have h2 := fun m => seconds_V (s := (sufP s).1) (by omega) m
  unfold parseR parseP
  generalize (sufP s).1 = t at *
  generalize (sufP s).2 = k at *
  generalize hM : (⟨[], m.next, m.next, 0⟩ : Mem) = M
  have hg : (M.push ⟨0, [.int .i64 0, .int .i64 0]⟩).get M.next = some ⟨0, [.int .i64 0, .int .i64 0]⟩ := by simp
  have hlo : M.lo ≤ M.next := by rw [← hM]; exact Nat.le_refl _
  unfold secR at h2
  have hst := fun (a b : Int) => aSt_two (a := a) (b := b) hg (by simpa using hlo)
  have fin : ∀ {k : Out} {x : Option Out} {v : Value}, (∃ m', x = some ⟨.ret, [v], m', []⟩) → (∀ k n m, frz (k + 6) n m v = v) → (x.bind (close m)) = some ⟨.ret, [v], m, []⟩ := by
    rintro _ x v ⟨m', rfl⟩ hv
    simp [hv]
  have fz7 : ∀ (a b c : Int) (k n : Nat) (m : Mem), frz (k + 6) n m (.tuple #[.agg #[.int .i64 a, .int .i64 b], .int .i64 c]) = .tuple #[.agg #[.int .i64 a, .int .i64 b], .int .i64 c] := fun a b c k n m => by simp
  by_cases h45 : t = [45]
  · subst h45
    by_cases hs45 : s = [45]
    · subst hs45
      rw [if_neg (by simp)]
      have ht : timeP [45] = some 0 := rfl
      rw [ht] at h2 ⊢
      refine fin (k := ⟨.ret, [], m, []⟩) ⟨?_, ?_⟩ (fz7 _ _ _)
      rotate_left
      simp only [x9]
      simp [h1, h2, ht, build00, buildnk, hst, ir9, resOfV, resLV, pack]
      rfl
    · rw [if_pos ⟨rfl, hs45⟩]
      refine fin (k := ⟨.ret, [], m, []⟩) ⟨?_, ?_⟩ (fz7 _ _ _)
      rotate_left
      simp only [x9]
      simp [h1, h2, hs45, build00, buildnk, hst, ir9, resOfV, resLV, pack]
      rfl
  · rw [if_neg (fun h => h45 h.1)]
    cases ht : timeP t with
    | none =>
      rw [ht] at h2
      refine fin (k := ⟨.ret, [], m, []⟩) ⟨?_, ?_⟩ (fz7 _ _ _)
      rotate_left
      simp only [x9]
      simp [h1, h2, h45, build00, buildnk, hst, ir9, resOfV, resLV, pack]
      rfl
    | some n =>
      rw [ht] at h2
      refine fin (k := ⟨.ret, [], m, []⟩) ⟨?_, ?_⟩ (fz7 _ _ _)
      rotate_left
      simp only [x9]
      simp [h1, h2, h45, build00, buildnk, hst, ir9, resOfV, resLV, pack]
      rfl
end Go.Proofs.YtbccdlbibcbcfaaDoor.D

namespace Go.Proofs.YtbccdlbibcbcfaaDoor.D
open Go.RowKit
set_option linter.unusedVariables false
set_option linter.unusedSimpArgs false
theorem rparse_V {s : List UInt8} (hs : s.length < 1000000) (m : Mem) : LV CV (.call 10) [S s] m [] = some ⟨.ret, [parseR s], m, []⟩ := by
  refine R10 ?_
  generalize hM : (⟨[], m.next, m.next, 0⟩ : Mem) = M
  have hg : (M.push ⟨0, [.int .i64 0, .int .i64 0]⟩).get M.next = some ⟨0, [.int .i64 0, .int .i64 0]⟩ := by simp
  have hlo : M.lo ≤ M.next := by rw [← hM]; exact Nat.le_refl _
  have hst := fun (a b : Int) => aSt_two (a := a) (b := b) hg (by simpa using hlo)
  have fin : ∀ {x : Option Out} {v : Value}, (∃ m', x = some ⟨.ret, [v], m', []⟩) → (∀ k n m, frz (k + 6) n m v = v) → (x.bind (close m)) = some ⟨.ret, [v], m, []⟩ := by
    rintro x v ⟨m', rfl⟩ hv
    simp [hv]
  have fz7 : ∀ (a b c : Int) (k n : Nat) (m : Mem), frz (k + 6) n m (.tuple #[.agg #[.int .i64 a, .int .i64 b], .int .i64 c]) = .tuple #[.agg #[.int .i64 a, .int .i64 b], .int .i64 c] := fun a b c k n m => by simp
  unfold parseR parseP
  by_cases h : s.length < 2
  · have h' : ¬ (1 : Int) < s.length := by omega
    rw [suf_short h]
    rw [if_neg (by simp)]
    have h2 := fun m => rtime_V hs m
    unfold refR at h2
    cases ht : timeP s with
    | none =>
      rw [ht] at h2
      refine fin ⟨?_, ?_⟩ (fz7 _ _ _)
      rotate_left
      simp only [x10]
      simp [h', h2, build00, buildnk, hst, ir10, resOfV, resLV, pack]
      rfl
    | some n =>
      rw [ht] at h2
      refine fin ⟨?_, ?_⟩ (fz7 _ _ _)
      rotate_left
      simp only [x10]
      simp [h', h2, build00, buildnk, hst, ir10, resOfV, resLV, pack]
      rfl
  · obtain ⟨d, c, rfl, hd⟩ := snoc_cases s (by omega)
    have hsl : d.length + 1 < 1000000 := by simpa using hs
    have hdne : d ≠ [] := by intro e; subst e; simp at hd
    have h' : (1 : Int) < (d.length : Int) + 1 := by omega
    have w : IntKind.wrap .i64 (d.length : Int) = d.length := wrap_i64 (by omega) (by omega)
    have hle : (d.length : Int) ≤ (d.length : Int) + 1 := by omega
    have h45 : ¬ d ++ [c] = [45] := by
      intro e
      have := congrArg List.length e
      simp at this
      exact hdne this
    have hne : ¬ d ++ [c] = d := by
      intro e
      have := congrArg List.length e
      simp at this
    -- cut, of so great a kind
    have cut : ∀ (k : Int), sufP (d ++ [c]) = (d, k) → (c = 119 ∧ k = 0 ∨ c = 115 ∧ k = 1 ∨ c = 117 ∧ k = 2 ∨ c = 103 ∧ k = 2 ∨ c = 122 ∧ k = 2) →
        ((x10 (LV CV) (S (d ++ [c])) M).bind (close m)) = some ⟨.ret, [parseR (d ++ [c])], m, []⟩ := by
      intro k hk hc
      have h2 := fun m => rtime_V (s := d) (by omega) m
      unfold refR at h2
      unfold parseR parseP
      rw [hk]
      by_cases hd45 : d = [45]
      · subst hd45
        have w01 : IntKind.wrap .i64 1 = 1 := by decide
        rw [if_pos ⟨rfl, hne⟩]
        rcases hc with ⟨rfl, rfl⟩ | ⟨rfl, rfl⟩ | ⟨rfl, rfl⟩ | ⟨rfl, rfl⟩ | ⟨rfl, rfl⟩ <;> (refine fin ⟨?_, ?_⟩ (fz7 _ _ _); rotate_left; simp only [x10]; simp [w01, h45, build00, buildnk, hst, ir10, resOfV, resLV, pack]; rfl)
      · rw [if_neg (fun h => hd45 h.1)]
        cases ht : timeP d with
        | none =>
          rw [ht] at h2
          rcases hc with ⟨rfl, rfl⟩ | ⟨rfl, rfl⟩ | ⟨rfl, rfl⟩ | ⟨rfl, rfl⟩ | ⟨rfl, rfl⟩ <;> (refine fin ⟨?_, ?_⟩ (fz7 _ _ _); rotate_left; simp only [x10]; simp [h', w, hle, h45, hd45, h2, build00, buildnk, hst, ir10, resOfV, resLV, pack]; rfl)
        | some n =>
          rw [ht] at h2
          rcases hc with ⟨rfl, rfl⟩ | ⟨rfl, rfl⟩ | ⟨rfl, rfl⟩ | ⟨rfl, rfl⟩ | ⟨rfl, rfl⟩ <;> (refine fin ⟨?_, ?_⟩ (fz7 _ _ _); rotate_left; simp only [x10]; simp [h', w, hle, h45, hd45, h2, build00, buildnk, hst, ir10, resOfV, resLV, pack]; rfl)
    have hsn := suf_snoc d c hd
    have goal : ∀ r, ((x10 (LV CV) (S (d ++ [c])) M).bind (close m)) = some ⟨.ret, [parseR (d ++ [c])], m, []⟩ → r = parseR (d ++ [c]) → ((x10 (LV CV) (S (d ++ [c])) M).bind (close m)) = some ⟨.ret, [r], m, []⟩ := fun r h e => by rw [e]; exact h
    refine goal _ ?_ rfl
    by_cases h1 : c = 119
    · exact cut 0 (by rw [hsn, if_pos h1]) (.inl ⟨h1, rfl⟩)
    · rw [if_neg h1] at hsn
      by_cases h2 : c = 115
      · exact cut 1 (by rw [hsn, if_pos h2]) (.inr (.inl ⟨h2, rfl⟩))
      · rw [if_neg h2] at hsn
        by_cases h3 : c = 117
        · exact cut 2 (by rw [hsn, if_pos h3]) (.inr (.inr (.inl ⟨h3, rfl⟩)))
        · rw [if_neg h3] at hsn
          by_cases h4 : c = 103
          · exact cut 2 (by rw [hsn, if_pos h4]) (.inr (.inr (.inr (.inl ⟨h4, rfl⟩))))
          · rw [if_neg h4] at hsn
            by_cases h5 : c = 122
            · exact cut 2 (by rw [hsn, if_pos h5]) (.inr (.inr (.inr (.inr ⟨h5, rfl⟩))))
            · rw [if_neg h5] at hsn
              have e1 := byte_eq c 119 (by omega)
              have e2 := byte_eq c 115 (by omega)
              have e3 := byte_eq c 117 (by omega)
              have e4 := byte_eq c 103 (by omega)
              have e5 := byte_eq c 122 (by omega)
              simp only [Int.cast_ofNat_Int] at e1 e2 e3 e4 e5
              have f1 : ¬ (c.toNat : Int) = 119 := by rw [e1]; exact h1
              have f2 : ¬ (c.toNat : Int) = 115 := by rw [e2]; exact h2
              have f3 : ¬ (c.toNat : Int) = 117 := by rw [e3]; exact h3
              have f4 : ¬ (c.toNat : Int) = 103 := by rw [e4]; exact h4
              have f5 : ¬ (c.toNat : Int) = 122 := by rw [e5]; exact h5
              unfold parseR parseP
              rw [hsn, if_neg (by simp)]
              have t2 := fun m => rtime_V (s := d ++ [c]) hs m
              unfold refR at t2
              cases ht : timeP (d ++ [c]) with
              | none =>
                rw [ht] at t2
                refine fin ⟨?_, ?_⟩ (fz7 _ _ _)
                rotate_left
                simp only [x10]
                simp [h', w, hle, h45, f1, f2, f3, f4, f5, t2, build00, buildnk, hst, ir10, resOfV, resLV, pack]
                rfl
              | some n =>
                rw [ht] at t2
                refine fin ⟨?_, ?_⟩ (fz7 _ _ _)
                rotate_left
                simp only [x10]
                simp [h', w, hle, h45, f1, f2, f3, f4, f5, t2, build00, buildnk, hst, ir10, resOfV, resLV, pack]
                rfl
def amountR (s : List UInt8) : Value := match amountP s with | some n => .tuple #[.int .i64 n, .int .i64 0] | none => .tuple #[.int .i64 0, .int .i64 7]
theorem amount_none {s : List UInt8} (h : timeP s = none) : amountR s = .tuple #[.int .i64 0, .int .i64 7] := by
  unfold amountR amountP; rw [h]
theorem amount_out {s : List UInt8} {n : Int} (h : timeP s = some n) (ho : 86400 < n ∨ n < -86400) : amountR s = .tuple #[.int .i64 0, .int .i64 7] := by
  unfold amountR amountP; rw [h]; simp only; rw [if_pos ho]
theorem amount_in {s : List UInt8} {n : Int} (h : timeP s = some n) (h1 : ¬ 86400 < n) (h2 : ¬ n < -86400) : amountR s = .tuple #[.int .i64 n, .int .i64 0] := by
  unfold amountR amountP; rw [h]; simp only; rw [if_neg (by rintro (h | h); exact h1 h; exact h2 h)]
/-- With the bounds as what they may be. -/
def amB (O : Orc) (K L : Int) (a0 : Value) (m : Mem) : Option Out :=
retK (O (.call 19) [a0] m []) (fun v0 m1 =>
(aExtract 0 v0).bind fun v3 =>
(aExtract 1 v0).bind fun v4 =>
(aBin .neq v4 (.int .i64 (0))).bind fun v5 =>
br v5 (
some ⟨.ret, [.tuple [(.int .i64 (0)), (.int .i64 (7))].toArray], m1, []⟩) (
(aBin .gtr v3 (.int .i64 K)).bind fun v6 =>
br v6 (
some ⟨.ret, [.tuple [(.int .i64 (0)), (.int .i64 (7))].toArray], m1, []⟩) (
(aBin .lss v3 (.int .i64 L)).bind fun v7 =>
br v7 (
some ⟨.ret, [.tuple [(.int .i64 (0)), (.int .i64 (7))].toArray], m1, []⟩) (
some ⟨.ret, [.tuple [v3, (.int .i64 (0))].toArray], m1, []⟩)))) (fun p2 m8 => some ⟨.panic p2, [], m8, []⟩)
theorem amB_none {s : List UInt8} (K L : Int) (m m' : Mem) (h : ∀ m, LV CV (.call 19) [S s] m [] = some ⟨.ret, [.tuple #[.int .i64 0, .int .i64 7]], m, []⟩) : (amB (LV CV) K L (S s) m).bind (close m') = some ⟨.ret, [.tuple #[.int .i64 0, .int .i64 7]], m', []⟩ := by
  simp [amB, h]
theorem amB_out {s : List UInt8} {K L n : Int} (m m' : Mem) (h : ∀ m, LV CV (.call 19) [S s] m [] = some ⟨.ret, [.tuple #[.int .i64 n, .int .i64 0]], m, []⟩) (ho : K < n ∨ n < L) : (amB (LV CV) K L (S s) m).bind (close m') = some ⟨.ret, [.tuple #[.int .i64 0, .int .i64 7]], m', []⟩ := by
  by_cases h1 : K < n
  · simp [amB, h, h1]
  · have h2 : n < L := by rcases ho with h | h; exact absurd h h1; exact h
    simp [amB, h, h1, h2]
theorem amB_in {s : List UInt8} {K L n : Int} (m m' : Mem) (h : ∀ m, LV CV (.call 19) [S s] m [] = some ⟨.ret, [.tuple #[.int .i64 n, .int .i64 0]], m, []⟩) (h1 : ¬ K < n) (h2 : ¬ n < L) : (amB (LV CV) K L (S s) m).bind (close m') = some ⟨.ret, [.tuple #[.int .i64 n, .int .i64 0]], m', []⟩ := by
  simp [amB, h, h1, h2]
theorem amount_V {s : List UInt8} (hs : s.length < 1000000) (m : Mem) : LV CV (.call 11) [S s] m [] = some ⟨.ret, [amountR s], m, []⟩ := by
  have h := fun m => seconds_V (s := s) (by omega) m
  unfold secR at h
  cases ht : timeP s with
  | none =>
    rw [ht] at h; rw [amount_none ht]
    exact R11 (amB_none 86400 (-86400) _ m h)
  | some n =>
    rw [ht] at h
    by_cases ho : 86400 < n ∨ n < -86400
    · rw [amount_out ht ho]
      exact R11 (amB_out _ m h ho)
    · rw [amount_in ht (fun h => ho (.inl h)) (fun h => ho (.inr h))]
      exact R11 (amB_in _ m h (fun h => ho (.inl h)) (fun h => ho (.inr h)))
/-- With the bounds as what they may be. -/
def ramB (O : Orc) (K L : Int) (a0 : Value) (m : Mem) : Option Out :=
retK (O (.call 20) [a0] m []) (fun v0 m1 =>
(aExtract 0 v0).bind fun v3 =>
(aExtract 1 v0).bind fun v4 =>
(aUn .not v4).bind fun v5 =>
br v5 (
some ⟨.ret, [.tuple [(.int .i64 (0)), (.int .i64 (7))].toArray], m1, []⟩) (
(aBin .gtr v3 (.int .i64 K)).bind fun v6 =>
br v6 (
some ⟨.ret, [.tuple [(.int .i64 (0)), (.int .i64 (7))].toArray], m1, []⟩) (
(aBin .lss v3 (.int .i64 L)).bind fun v7 =>
br v7 (
some ⟨.ret, [.tuple [(.int .i64 (0)), (.int .i64 (7))].toArray], m1, []⟩) (
some ⟨.ret, [.tuple [v3, (.int .i64 (0))].toArray], m1, []⟩)))) (fun p2 m8 => some ⟨.panic p2, [], m8, []⟩)
theorem ramB_none {s : List UInt8} (K L : Int) (m m' : Mem) (h : ∀ m, LV CV (.call 20) [S s] m [] = some ⟨.ret, [.tuple #[.int .i64 0, .bool false]], m, []⟩) : (ramB (LV CV) K L (S s) m).bind (close m') = some ⟨.ret, [.tuple #[.int .i64 0, .int .i64 7]], m', []⟩ := by
  simp [ramB, h]
theorem ramB_out {s : List UInt8} {K L n : Int} (m m' : Mem) (h : ∀ m, LV CV (.call 20) [S s] m [] = some ⟨.ret, [.tuple #[.int .i64 n, .bool true]], m, []⟩) (ho : K < n ∨ n < L) : (ramB (LV CV) K L (S s) m).bind (close m') = some ⟨.ret, [.tuple #[.int .i64 0, .int .i64 7]], m', []⟩ := by
  by_cases h1 : K < n
  · simp [ramB, h, h1]
  · have h2 : n < L := by rcases ho with h | h; exact absurd h h1; exact h
    simp [ramB, h, h1, h2]
theorem ramB_in {s : List UInt8} {K L n : Int} (m m' : Mem) (h : ∀ m, LV CV (.call 20) [S s] m [] = some ⟨.ret, [.tuple #[.int .i64 n, .bool true]], m, []⟩) (h1 : ¬ K < n) (h2 : ¬ n < L) : (ramB (LV CV) K L (S s) m).bind (close m') = some ⟨.ret, [.tuple #[.int .i64 n, .int .i64 0]], m', []⟩ := by
  simp [ramB, h, h1, h2]
theorem ramount_V {s : List UInt8} (hs : s.length < 1000000) (m : Mem) : LV CV (.call 12) [S s] m [] = some ⟨.ret, [amountR s], m, []⟩ := by
  have h := fun m => rtime_V (s := s) (by omega) m
  unfold refR at h
  cases ht : timeP s with
  | none =>
    rw [ht] at h; rw [amount_none ht]
    exact R12 (ramB_none 86400 (-86400) _ m h)
  | some n =>
    rw [ht] at h
    by_cases ho : 86400 < n ∨ n < -86400
    · rw [amount_out ht ho]
      exact R12 (ramB_out _ m h ho)
    · rw [amount_in ht (fun h => ho (.inl h)) (fun h => ho (.inr h))]
      exact R12 (ramB_in _ m h (fun h => ho (.inl h)) (fun h => ho (.inr h)))
end Go.Proofs.YtbccdlbibcbcfaaDoor.D

namespace Go.Proofs.YtbccdlbibcbcfaaDoor.D
open Go.RowKit
set_option linter.unusedVariables false
set_option linter.unusedSimpArgs false
theorem parseR_at (s : List UInt8) : ∃ n k j, parseR s = .tuple #[.agg #[.int .i64 n, .int .i64 k], .int .i64 j] := by
  unfold parseR
  split
  · exact ⟨_, _, _, rfl⟩
  · exact ⟨_, _, _, rfl⟩
theorem amountR_at (s : List UInt8) : ∃ n j, amountR s = .tuple #[.int .i64 n, .int .i64 j] := by
  unfold amountR
  split
  · exact ⟨_, _, rfl⟩
  · exact ⟨_, _, rfl⟩
theorem eqS_two (a b : Int) : aEqS false [.int, .int] (.agg #[.int .i64 a, .int .i64 b]) (.agg #[.int .i64 a, .int .i64 b]) = some (.bool true) := by
  simp
theorem parses_V (s : List UInt8) (m : Mem) : LV CV (.call 3) [S s] m [] = some ⟨.ret, [.bool true], m, []⟩ := by
  refine R3 ?_
  by_cases h : 500 < s.length
  · have h' : (500 : Int) < s.length := by omega
    simp [x3, h']
  · have h' : ¬ (500 : Int) < s.length := by omega
    have p1 := fun m => parse_V (s := s) (by omega) m
    have p2 := fun m => rparse_V (s := s) (by omega) m
    have p3 := fun m => amount_V (s := s) (by omega) m
    have p4 := fun m => ramount_V (s := s) (by omega) m
    obtain ⟨n, k, j, e⟩ := parseR_at s
    obtain ⟨a, b, e2⟩ := amountR_at s
    rw [e] at p1 p2
    rw [e2] at p3 p4
    generalize hM : (⟨[], m.next, m.next, 0⟩ : Mem) = M
    have hlo : M.lo ≤ M.next := by rw [← hM]; exact Nat.le_refl _
    have g1 : (M.push ⟨0, [.int .i64 0, .int .i64 0]⟩).get M.next = some ⟨0, [.int .i64 0, .int .i64 0]⟩ := by simp
    have s1 := aSt_two (a := n) (b := k) g1 (by simpa using hlo)
    have g2 : (((M.push ⟨0, [.int .i64 0, .int .i64 0]⟩).set M.next ⟨0, [.int .i64 n, .int .i64 k]⟩).push ⟨0, [.int .i64 0, .int .i64 0]⟩).get (M.next + 1) = some ⟨0, [.int .i64 0, .int .i64 0]⟩ := by rw [Mem.get_push, if_pos (by simp)]
    have s2 := aSt_two (a := n) (b := k) g2 (by simp; omega)
    have q1 : ((((M.push ⟨0, [.int .i64 0, .int .i64 0]⟩).set M.next ⟨0, [.int .i64 n, .int .i64 k]⟩).push ⟨0, [.int .i64 0, .int .i64 0]⟩).set (M.next + 1) ⟨0, [.int .i64 n, .int .i64 k]⟩).get M.next = some ⟨0, [.int .i64 n, .int .i64 k]⟩ := by
      rw [Mem.get_set, if_neg (by omega), Mem.get_push, if_neg (by simp), Mem.get_set, if_pos rfl]
    have q2 : ((((M.push ⟨0, [.int .i64 0, .int .i64 0]⟩).set M.next ⟨0, [.int .i64 n, .int .i64 k]⟩).push ⟨0, [.int .i64 0, .int .i64 0]⟩).set (M.next + 1) ⟨0, [.int .i64 n, .int .i64 k]⟩).get (M.next + 1) = some ⟨0, [.int .i64 n, .int .i64 k]⟩ := by
      rw [Mem.get_set, if_pos rfl]
    have hq := eqS_two n k
    simp only [x3]
    simp [h', p1, p2, p3, p4, s1, s2, q1, q2, hq]
end Go.Proofs.YtbccdlbibcbcfaaDoor.D
