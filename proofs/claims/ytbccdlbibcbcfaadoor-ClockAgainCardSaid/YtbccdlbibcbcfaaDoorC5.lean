/-
  The document's number, parts and time.
-/
import Derived.Test.YtbccdlbibcbcfaaDoorC4
namespace Go.Proofs.YtbccdlbibcbcfaaDoor.D
open Go.RowKit
set_option linter.unusedVariables false
set_option linter.unusedSimpArgs false
theorem rnum_loop {l : List UInt8} (hl : l.length ≤ 3) (most : Value) (m : Mem) : ∀ (k i n : Nat), i + k = l.length → n < 10 ^ i →
    ((l.drop i).all isD = true → LV CV (.loop 2800) [S l, most, .int .i64 0, .int .i64 n, .int .i64 i] m [] = some ⟨.exit 0, [S l, most, .int .i64 0, .int .i64 (valF n (l.drop i)), .int .i64 l.length], m, []⟩) ∧
    ((l.drop i).all isD = false → ∃ a b, LV CV (.loop 2800) [S l, most, .int .i64 0, .int .i64 n, .int .i64 i] m [] = some ⟨.ret, [S l, most, .int .i64 (-1), a, b], m, []⟩) := by
  intro k
  induction k with
  | zero =>
    intro i n hi hn
    obtain rfl : i = l.length := by omega
    rw [List.drop_length]
    refine ⟨fun _ => Q2800 ?_, fun h => by simp at h⟩
    simp [y2800, valF_nil]
  | succ k ih =>
    intro i n hi hn
    have hlt : i < l.length := by omega
    have hb := l[i].toNat_lt
    have hw : IntKind.wrap .i64 ((i : Int) + 1) = (i : Int) + 1 := wrap_i64 (by omega) (by omega)
    have hd : l.drop i = l[i] :: l.drop (i + 1) := List.drop_eq_getElem_cons hlt
    rw [hd]
    by_cases h1 : l[i].toNat < 48
    · have h1' : (l[i].toNat : Int) < 48 := by omega
      have hD : isD l[i] = false := by simp [isD]; omega
      refine ⟨fun h => (by rw [List.all_cons, hD] at h; simp at h), fun _ => ⟨.int .i64 n, .int .i64 i, Q2800 ?_⟩⟩
      simp [y2800, hlt, h1, h1']
    · have h1' : ¬ (l[i].toNat : Int) < 48 := by omega
      by_cases h2 : 57 < l[i].toNat
      · have h2' : (57 : Int) < l[i].toNat := by omega
        have hD : isD l[i] = false := by simp [isD]; omega
        refine ⟨fun h => (by rw [List.all_cons, hD] at h; simp at h), fun _ => ⟨.int .i64 n, .int .i64 i, Q2800 ?_⟩⟩
        simp [y2800, hlt, h1, h1', h2, h2']
      · have h2' : ¬ (57 : Int) < l[i].toNat := by omega
        have hD : isD l[i] = true := by simp [isD]; omega
        have hp : (10 : Nat) ^ i ≤ 100 := by
          have : i ≤ 2 := by omega
          calc (10 : Nat) ^ i ≤ 10 ^ 2 := Nat.pow_le_pow_right (by decide) this
            _ = 100 := by decide
        have e0 : (l[i].toNat : Int) - 48 = ((l[i].toNat - 48 : Nat) : Int) := by omega
        have w1 : IntKind.wrap .u8 ((l[i].toNat - 48 : Nat) : Int) = ((l[i].toNat - 48 : Nat) : Int) := wrap_u8 (by omega) (by omega)
        have w2 : IntKind.wrap .i64 ((l[i].toNat - 48 : Nat) : Int) = ((l[i].toNat - 48 : Nat) : Int) := wrap_i64 (by omega) (by omega)
        have w3 : IntKind.wrap .i64 ((n : Int) * 10) = (n : Int) * 10 := wrap_i64 (by omega) (by omega)
        have w4 : IntKind.wrap .i64 ((n : Int) * 10 + ((l[i].toNat - 48 : Nat) : Int)) = ((n * 10 + (l[i].toNat - 48) : Nat) : Int) := by rw [wrap_i64 (by omega) (by omega)]; omega
        simp only [valF_cons, List.all_cons, hD, Bool.true_and]
        have hN2 : n * 10 + (l[i].toNat - 48) < 10 ^ (i + 1) := by rw [Nat.pow_succ]; omega
        generalize hN : n * 10 + (l[i].toNat - 48) = N at *
        obtain ⟨i1, i2⟩ := ih (i + 1) N (by omega) hN2
        rw [Int.natCast_add, Int.natCast_one] at i1 i2
        refine ⟨fun h => Q2800 ?_, fun h => ?_⟩
        · have e := i1 h
          simp only [y2800]
          simp [hlt, h1', h2', e0, w1, w2, w3, w4, hw, e]
        · obtain ⟨a, b, e⟩ := i2 h
          refine ⟨a, b, Q2800 ?_⟩
          simp only [y2800]
          simp [hlt, h1', h2', e0, w1, w2, w3, w4, hw, e]
theorem rnum_V {l : List UInt8} (hl : l.length < 1000000000) (least many most : Nat) (hm : many ≤ 3) (m : Mem) : LV CV (.call 28) [S l, .int .i64 least, .int .i64 many, .int .i64 most] m [] = some ⟨.ret, [.int .i64 (numI least many most l)], m, []⟩ := by
  refine R28 ?_
  unfold numI numP
  by_cases h1 : l.length < least
  · have h1' : (l.length : Int) < least := by omega
    have hn : ¬ least ≤ l.length := by omega
    simp [x28, h1', hn]
  · have h1' : ¬ (l.length : Int) < least := by omega
    have hn : least ≤ l.length := by omega
    by_cases h2 : many < l.length
    · have h2' : (many : Int) < l.length := by omega
      have hn2 : ¬ l.length ≤ many := by omega
      simp [x28, h1', h2', hn2]
    · have h2' : ¬ (many : Int) < l.length := by omega
      have hn2 : l.length ≤ many := by omega
      obtain ⟨i1, i2⟩ := rnum_loop (l := l) (by omega) (.int .i64 most) ⟨[], m.next, m.next, 0⟩ l.length 0 0 (by omega) (by decide)
      simp only [List.drop_zero, Int.natCast_zero] at i1 i2
      cases hd : l.all isD with
      | false =>
        obtain ⟨a, b, e⟩ := i2 hd
        simp [x28, h1', h2', e]
      | true =>
        have e := i1 hd
        by_cases h3 : most < valF 0 l
        · have h3' : (most : Int) < valF 0 l := by omega
          have hn3 : ¬ valF 0 l ≤ most := by omega
          simp [x28, h1', h2', e, h3', hn3]
        · have h3' : ¬ (most : Int) < valF 0 l := by omega
          have hn3 : valF 0 l ≤ most := by omega
          simp [x28, h1', h2', e, h3', hn, hn2, hn3]
/-- The parts of what is left, with what was taken since the last colon. -/
def partsA (acc : List UInt8) : List UInt8 → List (List UInt8)
  | [] => [acc]
  | b :: t => if b = 58 then acc :: partsA [] t else partsA (acc ++ [b]) t
theorem partsA_eq : ∀ (l acc : List UInt8), partsA acc l = match splitC 58 l with | h :: r => (acc ++ h) :: r | [] => [acc] := by
  intro l
  induction l with
  | nil => intro acc; simp [partsA, splitC]
  | cons b t ih =>
    intro acc
    simp only [partsA]
    rw [splitC_cons]
    obtain ⟨h, r, e⟩ := splitC_ne 58 t
    by_cases hb : b = 58
    · rw [if_pos hb, if_pos hb, ih, e]; simp
    · rw [if_neg hb, if_neg hb, ih, e]; simp
theorem parts_loop {s : List UInt8} (hs : s.length < 1000000) : ∀ (k i f : Nat) (m : Mem) (v : Value) (out : List (List UInt8)), i + k = s.length → f ≤ i → out.length ≤ i → Own m v 1 (out.map es) →
    ∃ m' v' x y, LV CV (.loop 2700) [S s, v, .int .i64 f, .int .i64 i] m [] = some ⟨.exit 0, [S s, v', x, y], m', []⟩ ∧ Own m' v' 1 ((out ++ partsA ((s.take i).drop f) (s.drop i)).map es) ∧ m'.lo = m.lo := by
  intro k
  induction k with
  | zero =>
    intro i f m v out hi hf ho h
    obtain rfl : i = s.length := by omega
    have hw : IntKind.wrap .i64 ((s.length : Int) + 1) = (s.length : Int) + 1 := wrap_i64 (by omega) (by omega)
    have hle : (f : Int) ≤ s.length := by omega
    obtain ⟨v1, m1, e1, o1, k1⟩ := h.app1 (tt := true) (x := es (s.drop f)) rfl (b := 16) (by simp; omega) (by simp; omega)
    have hgt : ¬ (s.length : Int) + 1 ≤ s.length := by omega
    have hend : LV CV (.loop 2700) [S s, v1, .int .i64 ((s.length : Int) + 1), .int .i64 ((s.length : Int) + 1)] m1 [] = some ⟨.exit 0, [S s, v1, .int .i64 ((s.length : Int) + 1), .int .i64 ((s.length : Int) + 1)], m1, []⟩ := by
      refine Q2700 ?_
      simp [y2700, hgt]
    refine ⟨m1, v1, _, _, Q2700 (r := ⟨.exit 0, [S s, v1, .int .i64 ((s.length : Int) + 1), .int .i64 ((s.length : Int) + 1)], m1, []⟩) ?_, ?_, k1.lo⟩
    · simp only [es] at e1
      simp [y2700, hle, hf, e1, hw, hend]
    · simp only [List.drop_length, List.take_length, partsA, List.map_append, List.map_cons, List.map_nil]
      exact o1
  | succ k ih =>
    intro i f m v out hi hf ho h
    have hlt : i < s.length := by omega
    have hle : (i : Int) ≤ s.length := by omega
    have hne : ¬ (i : Int) = s.length := by omega
    have hne2 : ¬ i = s.length := by omega
    have hw : IntKind.wrap .i64 ((i : Int) + 1) = (i : Int) + 1 := wrap_i64 (by omega) (by omega)
    have hd : s.drop i = s[i] :: s.drop (i + 1) := List.drop_eq_getElem_cons hlt
    have ht : s.take (i + 1) = s.take i ++ [s[i]] := by rw [List.take_add_one]; simp [hlt]
    have hc : ((s[i].toNat : Int) = 58) = (s[i] = 58) := propext ⟨fun h => UInt8.toNat_inj.1 (by show s[i].toNat = 58; omega), fun h => by rw [h]; rfl⟩
    have hc2 : (s[i].toNat = 58) = (s[i] = 58) := propext ⟨fun h => UInt8.toNat_inj.1 (by show s[i].toNat = 58; omega), fun h => by rw [h]; rfl⟩
    rw [hd]
    simp only [partsA]
    by_cases hb : s[i] = 58
    · rw [if_pos hb]
      obtain ⟨v1, m1, e1, o1, k1⟩ := h.app1 (tt := true) (x := es ((s.take i).drop f)) rfl (b := 16) (by simp; omega) (by simp; omega)
      obtain ⟨m2, v2, x, y, e2, o2, k2⟩ := ih (i + 1) (i + 1) m1 v1 (out ++ [(s.take i).drop f]) (by omega) (Nat.le_refl _) (by simp; omega) (by simpa using o1)
      rw [Int.natCast_add, Int.natCast_one] at e2
      have hfi : (f : Int) ≤ i := by omega
      refine ⟨m2, v2, x, y, Q2700 ?_, ?_, by rw [k2, k1.lo]⟩
      · simp only [es] at e1
        have hile : i ≤ s.length := by omega
        simp [y2700, hlt, hle, hile, hne, hne2, hfi, hf, hc, hc2, hb, hw, e1, e2]
      · have e3 : (s.take (i + 1)).drop (i + 1) = [] := List.drop_of_length_le (by simp; omega)
        rw [e3] at o2
        simpa using o2
    · rw [if_neg hb]
      obtain ⟨m2, v2, x, y, e2, o2, k2⟩ := ih (i + 1) f m v out (by omega) (by omega) (by omega) h
      rw [Int.natCast_add, Int.natCast_one] at e2
      refine ⟨m2, v2, x, y, Q2700 ?_, ?_, k2⟩
      · simp only [y2700]
        simp [hlt, hle, hne, hne2, hc, hc2, hb, hw, e2]
      · have e3 : (s.take (i + 1)).drop f = (s.take i).drop f ++ [s[i]] := by
          rw [ht, List.drop_append_of_le_length (by simp; omega)]
        rw [e3] at o2
        exact o2
theorem rparts_V {s : List UInt8} (hs : s.length < 1000000) (m : Mem) : LV CV (.call 27) [S s] m [] = some ⟨.ret, [sq false false 1 ((splitC 58 s).map es)], m, []⟩ := by
  obtain ⟨m', v', x, y, e, o, hlo⟩ := parts_loop hs s.length 0 0 ⟨[], m.next, m.next, 0⟩ (.slice none 0 0) [] (by omega) (Nat.le_refl _) (by simp) (Own.nil (Nat.le_refl _))
  simp only [Int.natCast_zero, List.drop_zero, List.take_zero, List.nil_append] at e o
  have hp : partsA [] s = splitC 58 s := by
    rw [partsA_eq]
    obtain ⟨h, r, e⟩ := splitC_ne 58 s
    rw [e]; simp
  rw [hp] at o
  have hf := o.frz (k := 17) (n0 := m.next) (Cls.es _) (by rw [hlo]; exact Nat.le_refl _)
  refine R27 ?_
  simp [x27, e, hf]
theorem numI_ge (least many most : Nat) (l : List UInt8) : -1 ≤ numI least many most l ∧ numI least many most l ≤ most := by
  unfold numI
  cases h : numP least many most l with
  | none => simp only; omega
  | some v => have := numP_le h; simp only; omega
def xI (p : List (List UInt8)) (i : Nat) : Int := match p[i]? with | some q => numI 2 2 59 q | none => 0
theorem xI_ge (p : List (List UInt8)) (i : Nat) : -1 ≤ xI p i ∧ xI p i ≤ 59 := by
  unfold xI
  split
  · exact numI_ge 2 2 59 _
  · omega
theorem rt_step {p : List (List UInt8)} (hp : ∀ q ∈ p, q.length < 1000000000) {i : Nat} (hi : i < 3) {n : Int} (h1 : -1000000 ≤ n) (h2 : n ≤ 1000000) (bad : Bool) {low : Value} {m : Mem} {r : Out}
    (h : LV CV (.loop 2000) [low, sq false false 1 (p.map es), .int .i64 (n * 60 + xI p i), .bool (bad || decide (xI p i < 0)), .int .i64 ((i : Int) + 1)] m [] = some r) :
    LV CV (.loop 2000) [low, sq false false 1 (p.map es), .int .i64 n, .bool bad, .int .i64 i] m [] = some r := by
  have hi' : (i : Int) < 3 := by omega
  have hw : IntKind.wrap .i64 ((i : Int) + 1) = (i : Int) + 1 := wrap_i64 (by omega) (by omega)
  have w1 : IntKind.wrap .i64 (n * 60) = n * 60 := wrap_i64 (by omega) (by omega)
  obtain ⟨x1, x2⟩ := xI_ge p i
  have w2 : IntKind.wrap .i64 (n * 60 + xI p i) = n * 60 + xI p i := wrap_i64 (by omega) (by omega)
  refine Q2000 ?_
  by_cases hl : i < p.length
  · have hl' : (i : Int) < p.length := by omega
    have hx : xI p i = numI 2 2 59 p[i] := by unfold xI; rw [List.getElem?_eq_getElem hl]
    have hnum := rnum_V (l := p[i]) (hp _ (List.getElem_mem hl)) 2 2 59 (by omega)
    rw [← hx] at hnum
    simp only [Int.cast_ofNat_Int] at hnum
    simp only [y2000]
    generalize xI p i = X at *
    cases bad with
    | true => simp [hi', hl, hl', es, hnum, hw, w1, w2]; simpa using h
    | false => simp [hi', hl, hl', es, hnum, hw, w1, w2]; simpa using h
  · have hl' : ¬ (i : Int) < p.length := by omega
    have hx : xI p i = 0 := by unfold xI; rw [List.getElem?_eq_none (by omega)]
    rw [hx] at h
    simp only [y2000]
    cases bad with
    | true => simp [hi', hl, hl', hw, w1]; simpa using h
    | false => simp [hi', hl, hl', hw, w1]; simpa using h
theorem secI (a : List UInt8) (ps : List (List UInt8)) (h : ps.length ≤ 2) : (if (decide (numI 1 3 167 a < 0) || decide (xI (a :: ps) 1 < 0) || decide (xI (a :: ps) 2 < 0)) = true then (none : Option Int) else some ((numI 1 3 167 a * 60 + xI (a :: ps) 1) * 60 + xI (a :: ps) 2)) = (secP (a :: ps)).map fun n => (n : Int) := by
  match ps, h with
  | [], _ => cases h1 : numP 1 3 167 a <;> simp [secP, xI, numI, h1] <;> omega
  | [b], _ => cases h1 : numP 1 3 167 a <;> cases h2 : numP 2 2 59 b <;> simp [secP, xI, numI, h1, h2] <;> omega
  | [b, c], _ => cases h1 : numP 1 3 167 a <;> cases h2 : numP 2 2 59 b <;> cases h3 : numP 2 2 59 c <;> simp [secP, xI, numI, h1, h2, h3] <;> omega
def refR (s : List UInt8) : Value := match timeP s with | some n => .tuple #[.int .i64 n, .bool true] | none => .tuple #[.int .i64 0, .bool false]
theorem splitC_part (c : UInt8) : ∀ (l : List UInt8), ∀ q ∈ splitC c l, q.length ≤ l.length := by
  intro l
  induction l with
  | nil => intro q hq; simp [splitC] at hq; subst hq; simp
  | cons b t ih =>
    intro q hq
    rw [splitC_cons] at hq
    by_cases h : b = c
    · rw [if_pos h] at hq
      rcases List.mem_cons.1 hq with rfl | hq
      · simp
      · have := ih q hq; simp; omega
    · rw [if_neg h] at hq
      obtain ⟨x, r, e⟩ := splitC_ne c t
      rw [e] at hq ih
      simp only at hq
      rcases List.mem_cons.1 hq with rfl | hq
      · have := ih x (by simp); simp; omega
      · have := ih q (by simp [hq]); simp; omega
end Go.Proofs.YtbccdlbibcbcfaaDoor.D
