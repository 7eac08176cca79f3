/-
  The clock's reader: a text's part, and its number.
-/
import Derived.Test.YtbccdlbibcbcfaaDoorC1
namespace Go.Proofs.YtbccdlbibcbcfaaDoor.D
open Go.RowKit
set_option linter.unusedVariables false
set_option linter.unusedSimpArgs false
/-- What a bad time panics with. -/
def PB : Value := .iface 25 (.int .i64 7)
@[simp] theorem ifB (x : Value) : vIface 25 x = some (.iface 25 x) := vIface_ok (by rfl) x
@[simp] theorem panB (v : Value) (k : Value → Option Out) : panV (.iface 25 v) k = k (.iface 25 v) := panV_iface (by rfl) v k
@[simp] theorem aUn_neg (k : IntKind) (n : Int) : aUn .neg (.int k n) = some (.int k (k.wrap (0 - n))) := rfl
def Cutted (l x r : List UInt8) : Prop := (58 ∉ l ∧ x = l ∧ r = []) ∨ (l = x ++ 58 :: r ∧ 58 ∉ x)
theorem Cutted.len {l x r : List UInt8} (h : Cutted l x r) : x.length ≤ l.length ∧ r.length ≤ l.length := by
  rcases h with ⟨_, rfl, rfl⟩ | ⟨rfl, _⟩
  · simp
  · simp; omega
theorem index_V (l : List UInt8) (c : UInt8) (m : Mem) : LV CV (.call 41) [S l, S [c]] m [] = some ⟨.ret, [.int .i64 (Lib.indexByte l c)], m, []⟩ := by
  refine R41 ?_
  by_cases h : [c] = l
  · subst h
    simp [x41, Lib.indexByte]
  · have hi := fun m => idxB_V l c m
    simp only [x41]
    simp [h, hi]
theorem cut_V {l x r : List UInt8} (h : Cutted l x r) (hl : l.length < 1000000000) (m : Mem) : ∃ b, LV CV (.call 42) [S l, S [58]] m [] = some ⟨.ret, [.tuple #[S x, S r, .bool b]], m, []⟩ := by
  have hc : ∃ b, ∀ m, LV CV (.call 48) [S l, S [58]] m [] = some ⟨.ret, [.tuple #[S x, S r, .bool b]], m, []⟩ := by
    have hi := fun m => index_V l 58 m
    rcases h with ⟨h, rfl, rfl⟩ | ⟨rfl, h⟩
    · rw [indexByte_no h] at hi
      refine ⟨false, fun m => R48 ?_⟩
      simp [x48, hi]
    · rw [indexByte_app r h] at hi
      simp only [List.length_append, List.length_cons] at hl
      have hw : IntKind.wrap .i64 ((x.length : Int) + 1) = (x.length : Int) + 1 := wrap_i64 (by omega) (by omega)
      have h1 : (x.length : Int) ≤ (x.length : Int) + ((r.length : Int) + 1) := by omega
      have h2 : (x.length : Int) + 1 ≤ (x.length : Int) + ((r.length : Int) + 1) := by omega
      have h3 : ((x.length : Int) + 1).toNat = x.length + 1 := by omega
      have h4 : (0 : Int) ≤ (x.length : Int) + 1 := by omega
      refine ⟨true, fun m => R48 ?_⟩
      simp only [x48]
      have h5 : ((x ++ 58 :: r).take (x.length + (r.length + 1))).drop (x.length + 1) = r := by
        rw [List.take_of_length_le (by simp), List.drop_append, List.drop_of_length_le (by omega)]
        simp
      simp [hi, hw, h1, h2, h3, h4, h5]
  obtain ⟨b, hb⟩ := hc
  refine ⟨b, R42 ?_⟩
  simp [x42, hb]
theorem take_V {l x r : List UInt8} (h : Cutted l x r) (hl : l.length < 1000000000) {m : Mem} {o : Nat} (hg : m.get o = some ⟨0, [S l]⟩) (hlo : m.lo ≤ o) : LV CV (.call 37) [.pointer (some ⟨o, 0, none⟩)] m [] = some ⟨.ret, [S x], m.set o ⟨0, [S r]⟩, []⟩ := by
  obtain ⟨b, hc⟩ := cut_V h hl m
  refine R37 ?_
  simp [x37, hg, hc, st_one, hlo, putL]
theorem num_loop {l : List UInt8} (hl : l.length < 1000000000) (least many : Value) {most : Nat} (hm : most ≤ 1000) {m : Mem} {o : Nat} (hg : m.get o = some ⟨1, l.map fun b => .int .u8 b.toNat⟩) : ∀ (k i n : Nat), i + k = l.length → n ≤ most →
    (∀ v, runN most n (l.drop i) = some v → LV CV (.loop 2600) [least, many, .int .i64 most, S l, .int .i64 n, .slice (some ⟨o, 0, none⟩) l.length (l.length + 1), .int .i64 l.length, .int .i64 i] m [] = some ⟨.exit 0, [least, many, .int .i64 most, S l, .int .i64 v, .slice (some ⟨o, 0, none⟩) l.length (l.length + 1), .int .i64 l.length, .int .i64 l.length], m, []⟩) ∧
    (runN most n (l.drop i) = none → ∃ vals, LV CV (.loop 2600) [least, many, .int .i64 most, S l, .int .i64 n, .slice (some ⟨o, 0, none⟩) l.length (l.length + 1), .int .i64 l.length, .int .i64 i] m [] = some ⟨.panic PB, vals, m, []⟩) := by
  intro k
  induction k with
  | zero =>
    intro i n hi hn
    obtain rfl : i = l.length := by omega
    rw [List.drop_length]
    refine ⟨fun v hv => ?_, fun hv => by simp [runN] at hv⟩
    obtain rfl : n = v := by simpa [runN] using hv
    refine Q2600 ?_
    simp [y2600]
  | succ k ih =>
    intro i n hi hn
    have hlt : i < l.length := by omega
    have hb := l[i].toNat_lt
    have hw : IntKind.wrap .i64 ((i : Int) + 1) = (i : Int) + 1 := wrap_i64 (by omega) (by omega)
    have hd : l.drop i = l[i] :: l.drop (i + 1) := List.drop_eq_getElem_cons hlt
    rw [hd]
    by_cases h1 : l[i].toNat < 48
    · have h1' : (l[i].toNat : Int) < 48 := by omega
      have hD : isD l[i] = false := by simp [isD]; omega
      refine ⟨fun v hv => by simp [runN, hD] at hv, fun _ => ⟨[least, many, .int .i64 most, S l, .int .i64 n, .slice (some ⟨o, 0, none⟩) l.length (l.length + 1), .int .i64 l.length, .int .i64 i], Q2600 ?_⟩⟩
      simp [y2600, hlt, hg, h1, h1', PB, cutN]
    · have h1' : ¬ (l[i].toNat : Int) < 48 := by omega
      by_cases h2 : 57 < l[i].toNat
      · have h2' : (57 : Int) < l[i].toNat := by omega
        have hD : isD l[i] = false := by simp [isD]; omega
        refine ⟨fun v hv => by simp [runN, hD] at hv, fun _ => ⟨[least, many, .int .i64 most, S l, .int .i64 n, .slice (some ⟨o, 0, none⟩) l.length (l.length + 1), .int .i64 l.length, .int .i64 i], Q2600 ?_⟩⟩
        simp [y2600, hlt, hg, h1, h1', h2, h2', PB, cutN]
      · have h2' : ¬ (57 : Int) < l[i].toNat := by omega
        have hD : isD l[i] = true := by simp [isD]; omega
        have e0 : (l[i].toNat : Int) - 48 = ((l[i].toNat - 48 : Nat) : Int) := by omega
        have w1 : IntKind.wrap .u8 ((l[i].toNat - 48 : Nat) : Int) = ((l[i].toNat - 48 : Nat) : Int) := wrap_u8 (by omega) (by omega)
        have w2 : IntKind.wrap .i64 ((l[i].toNat - 48 : Nat) : Int) = ((l[i].toNat - 48 : Nat) : Int) := wrap_i64 (by omega) (by omega)
        have w3 : IntKind.wrap .i64 ((n : Int) * 10) = (n : Int) * 10 := wrap_i64 (by omega) (by omega)
        have w4 : IntKind.wrap .i64 ((n : Int) * 10 + ((l[i].toNat - 48 : Nat) : Int)) = ((n * 10 + (l[i].toNat - 48) : Nat) : Int) := by rw [wrap_i64 (by omega) (by omega)]; omega
        simp only [runN, hD, if_true]
        generalize hN : n * 10 + (l[i].toNat - 48) = N at *
        by_cases h3 : most < N
        · have h3' : (most : Int) < N := by omega
          rw [if_pos h3]
          refine ⟨fun v hv => (by cases hv), fun _ => ⟨[least, many, .int .i64 most, S l, .int .i64 N, .slice (some ⟨o, 0, none⟩) l.length (l.length + 1), .int .i64 l.length, .int .i64 i], Q2600 ?_⟩⟩
          simp only [y2600]
          simp [hlt, hg, h1', h2', PB, cutN, e0, w1, w2, w3, w4, h3']
        · have h3' : ¬ (most : Int) < N := by omega
          rw [if_neg h3]
          obtain ⟨i1, i2⟩ := ih (i + 1) N (by omega) (by omega)
          rw [Int.natCast_add, Int.natCast_one] at i1 i2
          refine ⟨fun v hv => Q2600 ?_, fun hv => ?_⟩
          · have e := i1 v hv
            simp only [y2600]
            simp [hlt, hg, h1', h2', PB, cutN, e0, w1, w2, w3, w4, h3', hw, e]
          · obtain ⟨vals, e⟩ := i2 hv
            refine ⟨vals, Q2600 ?_⟩
            simp only [y2600]
            simp [hlt, hg, h1', h2', cutN, e0, w1, w2, w3, w4, h3', hw, e]
theorem number_V {l x r : List UInt8} (h : Cutted l x r) (hl : l.length < 1000000000) {m : Mem} {o : Nat} (hg : m.get o = some ⟨0, [S l]⟩) (hlo : m.lo ≤ o) (hon : o < m.next) (least many : Nat) {most : Nat} (hm : most ≤ 1000) :
    LV CV (.call 26) [.pointer (some ⟨o, 0, none⟩), .int .i64 least, .int .i64 many, .int .i64 most] m [] = some (match numP least many most x with | some v => ⟨.ret, [.int .i64 v], (m.set o ⟨0, [S r]⟩).push ⟨1, x.map fun b => .int .u8 b.toNat⟩, []⟩ | none => ⟨.panic PB, [], (m.set o ⟨0, [S r]⟩).push ⟨1, x.map fun b => .int .u8 b.toNat⟩, []⟩) := by
  have ht := take_V h hl hg hlo
  have hx : x.length < 1000000000 := Nat.lt_of_le_of_lt h.len.1 hl
  obtain ⟨q1, q2⟩ := num_loop hx (.int .i64 least) (.int .i64 many) hm (m := (m.set o ⟨0, [S r]⟩).push ⟨1, x.map fun b => .int .u8 b.toNat⟩) (o := m.next) (by simp) x.length 0 0 (by omega) (Nat.zero_le _)
  simp only [List.drop_zero, Int.natCast_zero] at q1 q2
  rw [numP_run]
  refine R26 ?_
  cases hr : runN most 0 x with
  | none =>
    obtain ⟨vals, e⟩ := q2 hr
    simp [x26, ht, e]
  | some v =>
    have e := q1 v hr
    by_cases h1 : x.length < least
    · have h1' : (x.length : Int) < least := by omega
      have hn : ¬ (least ≤ x.length ∧ x.length ≤ many) := by omega
      simp [x26, ht, e, h1', hn, PB]
    · have h1' : ¬ (x.length : Int) < least := by omega
      by_cases h2 : many < x.length
      · have h2' : (many : Int) < x.length := by omega
        have hn : ¬ (least ≤ x.length ∧ x.length ≤ many) := by omega
        simp [x26, ht, e, h1', h2', hn, PB]
      · have h2' : ¬ (many : Int) < x.length := by omega
        have hn : least ≤ x.length ∧ x.length ≤ many := by omega
        simp [x26, ht, e, h1', h2', hn]
end Go.Proofs.YtbccdlbibcbcfaaDoor.D
