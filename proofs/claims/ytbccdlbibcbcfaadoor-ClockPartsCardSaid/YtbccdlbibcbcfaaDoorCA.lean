/-
  Times of day: what a text says, in plain words; no program in sight.
  The clock's reader: a text's part, and its number.
  The seconds of a text, as the program reads them.
  The seconds of a text: the whole function.
-/
import Derived.Test.YtbccdlbibcbcfaaDoorVZ
import Derived.Test.YtbccdlbibcbcfaaDoorVS
import Derived.Lib.ItoaNum
import Derived.Lib.IndexBytes
namespace Go.Proofs.YtbccdlbibcbcfaaDoor.D
set_option linter.unusedVariables false
set_option linter.unusedSimpArgs false
def isD (b : UInt8) : Bool := decide (48 ≤ b.toNat) && decide (b.toNat ≤ 57)
def valF (n : Nat) (l : List UInt8) : Nat := l.foldl (fun n b => n * 10 + (b.toNat - 48)) n
theorem valF_nil (n : Nat) : valF n [] = n := by unfold valF; rw [List.foldl_nil]
theorem valF_cons (n : Nat) (b : UInt8) (t : List UInt8) : valF n (b :: t) = valF (n * 10 + (b.toNat - 48)) t := by unfold valF; rw [List.foldl_cons]
theorem valF_ge : ∀ (l : List UInt8) (n : Nat), n ≤ valF n l := by
  intro l
  induction l with
  | nil => intro n; exact Nat.le_refl _
  | cons b t ih =>
    intro n
    have h := ih (n * 10 + (b.toNat - 48))
    rw [valF_cons]
    generalize b.toNat - 48 = d at *
    generalize valF (n * 10 + d) t = v at *
    omega
theorem valF_lt : ∀ (l : List UInt8) (n : Nat), l.all isD = true → valF n l < (n + 1) * 10 ^ l.length := by
  intro l
  induction l with
  | nil => intro n _; simp [valF]
  | cons b t ih =>
    intro n h
    simp only [List.all_cons, Bool.and_eq_true, isD, decide_eq_true_eq] at h
    rw [valF_cons, List.length_cons, Nat.pow_succ]
    refine Nat.lt_of_lt_of_le (ih _ h.2) ?_
    rw [Nat.mul_comm (10 ^ t.length) 10, ← Nat.mul_assoc]
    exact Nat.mul_le_mul_right _ (by omega)
/-- Digits, so many, at most so great. -/
def numP (least many most : Nat) (l : List UInt8) : Option Nat := if (decide (least ≤ l.length) && decide (l.length ≤ many) && l.all isD && decide (valF 0 l ≤ most)) = true then some (valF 0 l) else none
def numI (least many most : Nat) (l : List UInt8) : Int := match numP least many most l with | some v => v | none => -1
theorem numP_le {least many most : Nat} {l : List UInt8} {v : Nat} (h : numP least many most l = some v) : v ≤ most := by
  unfold numP at h
  split at h
  · rename_i hh; cases h; simp only [Bool.and_eq_true, decide_eq_true_eq] at hh; exact hh.2
  · cases h
/-- Digit by digit, no more than so great. -/
def runN (most : Nat) : Nat → List UInt8 → Option Nat
  | n, [] => some n
  | n, b :: t => if isD b = true then (if most < n * 10 + (b.toNat - 48) then none else runN most (n * 10 + (b.toNat - 48)) t) else none
theorem runN_eq (most : Nat) : ∀ (l : List UInt8) (n : Nat), n ≤ most → runN most n l = if (l.all isD && decide (valF n l ≤ most)) = true then some (valF n l) else none := by
  intro l
  induction l with
  | nil => intro n h; simp [runN, valF, h]
  | cons b t ih =>
    intro n h
    simp only [runN, List.all_cons, valF_cons]
    by_cases hb : isD b = true
    · rw [if_pos hb]
      by_cases hm : most < n * 10 + (b.toNat - 48)
      · rw [if_pos hm, if_neg]
        have := valF_ge t (n * 10 + (b.toNat - 48))
        simp only [Bool.and_eq_true, decide_eq_true_eq, not_and]
        intro _
        omega
      · rw [if_neg hm, ih _ (by omega), hb]; simp
    · rw [if_neg hb, if_neg]
      simp [hb]
theorem numP_run (least many most : Nat) (l : List UInt8) : numP least many most l = (runN most 0 l).bind fun v => if least ≤ l.length ∧ l.length ≤ many then some v else none := by
  rw [runN_eq most l 0 (Nat.zero_le _)]
  unfold numP
  by_cases h1 : (l.all isD && decide (valF 0 l ≤ most)) = true
  · rw [if_pos h1, Option.bind_some]
    simp only [Bool.and_eq_true, decide_eq_true_eq] at h1 ⊢
    by_cases h2 : least ≤ l.length ∧ l.length ≤ many
    · rw [if_pos ⟨⟨⟨h2.1, h2.2⟩, h1.1⟩, h1.2⟩, if_pos h2]
    · rw [if_neg h2, if_neg (fun h => h2 ⟨h.1.1.1, h.1.1.2⟩)]
  · rw [if_neg h1, if_neg]
    · rfl
    · intro h
      apply h1
      simp only [Bool.and_eq_true, decide_eq_true_eq] at h ⊢
      exact ⟨h.1.2, h.2⟩
/-- Parts between a byte. -/
def splitC (c : UInt8) : List UInt8 → List (List UInt8)
  | [] => [[]]
  | b :: t => if b = c then [] :: splitC c t else (match splitC c t with | h :: r => (b :: h) :: r | [] => [[b]])
theorem splitC_cons (c b : UInt8) (t : List UInt8) : splitC c (b :: t) = if b = c then [] :: splitC c t else (match splitC c t with | h :: r => (b :: h) :: r | [] => [[b]]) := rfl
theorem splitC_ne (c : UInt8) (l : List UInt8) : ∃ h r, splitC c l = h :: r := by
  cases l with
  | nil => exact ⟨_, _, rfl⟩
  | cons b t =>
    unfold splitC
    split
    · exact ⟨_, _, rfl⟩
    · split <;> exact ⟨_, _, rfl⟩
theorem splitC_no (c : UInt8) (l : List UInt8) (h : c ∉ l) : splitC c l = [l] := by
  induction l with
  | nil => rfl
  | cons b t ih =>
    simp only [List.mem_cons, not_or] at h
    rw [splitC_cons, if_neg (Ne.symm h.1), ih h.2]
theorem splitC_at (c : UInt8) (a b : List UInt8) (h : c ∉ a) : splitC c (a ++ c :: b) = a :: splitC c b := by
  induction a with
  | nil => simp [splitC_cons]
  | cons x t ih =>
    simp only [List.mem_cons, not_or] at h
    rw [List.cons_append, splitC_cons, if_neg (Ne.symm h.1), ih h.2]
theorem split_cases (c : UInt8) (l : List UInt8) : c ∉ l ∨ ∃ a b, l = a ++ c :: b ∧ c ∉ a := by
  induction l with
  | nil => exact .inl (by simp)
  | cons x t ih =>
    by_cases h : x = c
    · subst h; exact .inr ⟨[], t, rfl, by simp⟩
    · rcases ih with ih | ⟨a, b, rfl, ha⟩
      · exact .inl (by simp [ih, Ne.symm h])
      · exact .inr ⟨x :: a, b, rfl, by simp [ha, Ne.symm h]⟩
theorem splitC_len (c : UInt8) : ∀ (l : List UInt8), (splitC c l).length = l.count c + 1 := by
  intro l
  induction l with
  | nil => rfl
  | cons b t ih =>
    rw [splitC_cons]
    by_cases h : b = c
    · subst h; simp [ih]
    · rw [if_neg h, List.count_cons_of_ne h]
      obtain ⟨x, r, e⟩ := splitC_ne c t
      rw [e] at ih ⊢
      simpa using ih
theorem indexByte_mem (l : List UInt8) (c : UInt8) : decide (0 ≤ Lib.indexByte l c) = decide (c ∈ l) := by
  induction l with
  | nil => simp [Lib.indexByte]
  | cons b t ih =>
    unfold Lib.indexByte
    by_cases h : b = c
    · subst h; simp
    · have hb : ¬ (b == c) = true := by simpa using h
      rw [if_neg hb]
      have hge := Lib.indexByte_ge t c
      have hm : (c ∈ b :: t) = (c ∈ t) := by simp [Ne.symm h]
      simp only [hm, ← ih]
      split
      · rename_i e
        have := beq_iff_eq.1 e
        rw [this]
      · rename_i e
        have : Lib.indexByte t c ≠ -1 := fun x => e (beq_iff_eq.2 x)
        simp only [decide_eq_decide]
        omega
theorem indexByte_no {c : UInt8} {l : List UInt8} (h : c ∉ l) : Lib.indexByte l c = -1 := by
  have := indexByte_mem l c
  simp only [h, decide_false, decide_eq_false_iff_not] at this
  have := Lib.indexByte_ge l c
  omega
theorem indexByte_app {c : UInt8} : ∀ {a : List UInt8} (b : List UInt8), c ∉ a → Lib.indexByte (a ++ c :: b) c = a.length := by
  intro a
  induction a with
  | nil => intro b _; simp [Lib.indexByte]
  | cons x t ih =>
    intro b h
    simp only [List.mem_cons, not_or] at h
    rw [List.cons_append]
    unfold Lib.indexByte
    rw [if_neg (by simpa using Ne.symm h.1), ih b h.2, if_neg (by simp)]
    simp
/-- The seconds that parts say. -/
def secP : List (List UInt8) → Option Nat
  | [a] => (numP 1 3 167 a).map fun h => h * 3600
  | [a, b] => (numP 1 3 167 a).bind fun h => (numP 2 2 59 b).map fun m => h * 3600 + m * 60
  | [a, b, c] => (numP 1 3 167 a).bind fun h => (numP 2 2 59 b).bind fun m => (numP 2 2 59 c).map fun x => h * 3600 + m * 60 + x
  | _ => none
def timeP (s : List UInt8) : Option Int :=
  if s = [45] then some 0 else if [45] <+: s then (secP (splitC 58 (s.drop 1))).map fun n => -(n : Int) else (secP (splitC 58 s)).map fun n => (n : Int)
theorem secP_le {p : List (List UInt8)} {n : Nat} (h : secP p = some n) : n ≤ 604799 := by
  unfold secP at h
  split at h
  · rename_i a
    cases h1 : numP 1 3 167 a with
    | none => rw [h1] at h; cases h
    | some v => simp only [h1, Option.map_some, Option.some.injEq] at h; have := numP_le h1; omega
  · rename_i a b
    cases h1 : numP 1 3 167 a with
    | none => rw [h1] at h; cases h
    | some v =>
      cases h2 : numP 2 2 59 b with
      | none => rw [h1, h2] at h; cases h
      | some w => simp only [h1, h2, Option.bind_some, Option.map_some, Option.some.injEq] at h; have := numP_le h1; have := numP_le h2; omega
  · rename_i a b c
    cases h1 : numP 1 3 167 a with
    | none => rw [h1] at h; cases h
    | some v =>
      cases h2 : numP 2 2 59 b with
      | none => rw [h1, h2] at h; cases h
      | some w =>
        cases h3 : numP 2 2 59 c with
        | none => rw [h1, h2, h3] at h; cases h
        | some x => simp only [h1, h2, h3, Option.bind_some, Option.map_some, Option.some.injEq] at h; have := numP_le h1; have := numP_le h2; have := numP_le h3; omega
  · cases h
theorem timeP_le {s : List UInt8} {n : Int} (h : timeP s = some n) : -604799 ≤ n ∧ n ≤ 604799 := by
  unfold timeP at h
  split at h
  · cases h; decide
  · split at h
    · cases h1 : secP (splitC 58 (s.drop 1)) with
      | none => rw [h1] at h; cases h
      | some v => rw [h1] at h; have h2 := secP_le h1; have h3 := Option.some.inj h; simp only at h3; subst h3; constructor <;> omega
    · cases h1 : secP (splitC 58 s) with
      | none => rw [h1] at h; cases h
      | some v => rw [h1] at h; have h2 := secP_le h1; have h3 := Option.some.inj h; simp only at h3; subst h3; constructor <;> omega
/-- A text without its suffix, and the kind of time. -/
def sufP (s : List UInt8) : List UInt8 × Int :=
  if s.length < 2 then (s, 0) else match s.getLast? with
    | some 119 => (s.dropLast, 0)
    | some 115 => (s.dropLast, 1)
    | some 117 => (s.dropLast, 2)
    | some 103 => (s.dropLast, 2)
    | some 122 => (s.dropLast, 2)
    | _ => (s, 0)
def parseP (s : List UInt8) : Option (Int × Int) := if (sufP s).1 = [45] ∧ s ≠ (sufP s).1 then none else (timeP (sufP s).1).map fun n => (n, (sufP s).2)
def amountP (s : List UInt8) : Option Int := match timeP s with | some n => if n > 86400 ∨ n < -86400 then none else some n | none => none
/-! ### What is shown -/
def dg (n : Nat) : UInt8 := UInt8.ofNat (48 + n)
def pairP (n : Nat) : List UInt8 := [58, dg (n / 10), dg (n % 10)]
def hourP (h : Nat) : List UInt8 := Lib.decDigits h
def natP (n : Nat) : List UInt8 := hourP (n / 3600) ++ pairP (n / 60 % 60) ++ (if 0 < n % 60 then pairP (n % 60) else [])
def textP (n : Int) : List UInt8 := (if n < 0 then [45] else []) ++ natP n.natAbs
def kindP (k : Int) : List UInt8 := if k = 1 then [115] else if k = 2 then [117] else []
def showP (n k : Int) : Option (List UInt8) := if n ≤ -604800 ∨ 604800 ≤ n ∨ k < 0 ∨ 2 < k then none else some (textP n ++ kindP k)
def showAmountP (n : Int) : Option (List UInt8) := if n < -86400 ∨ 86400 < n then none else some (textP n)
end Go.Proofs.YtbccdlbibcbcfaaDoor.D

namespace Go.Proofs.YtbccdlbibcbcfaaDoor.D
open Go.RowKit
set_option linter.unusedVariables false
set_option linter.unusedSimpArgs false
/-- What a bad time panics with. -/
def PB : Value := .iface 25 (.int .i64 7)
@[simp] theorem ifB (x : Value) : vIface 25 x = some (.iface 25 x) := vIface_ok (by rfl) x
@[simp] theorem panB (v : Value) (k : Value → Option Out) : panV (.iface 25 v) k = k (.iface 25 v) := panV_iface (by rfl) v k
@[simp] theorem aUn_neg (k : IntKind) (n : Int) : aUn .neg (.int k n) = some (.int k (k.wrap (0 - n))) := rfl
def Cutted (l x r : List UInt8) : Prop := (58 ∉ l ∧ x = l ∧ r = []) ∨ (l = x ++ 58 :: r ∧ 58 ∉ x)
theorem Cutted.len {l x r : List UInt8} (h : Cutted l x r) : x.length ≤ l.length ∧ r.length ≤ l.length := by
  rcases h with ⟨_, rfl, rfl⟩ | ⟨rfl, _⟩
  · simp
  · simp; omega
theorem index_V (l : List UInt8) (c : UInt8) (m : Mem) : LV CV (.call 41) [S l, S [c]] m [] = some ⟨.ret, [.int .i64 (Lib.indexByte l c)], m, []⟩ := by
  refine R41 ?_
  by_cases h : [c] = l
  · subst h
    simp [x41, Lib.indexByte]
  · have hi := fun m => idxB_V l c m
    simp only [x41]
    simp [h, hi]
theorem cut_V {l x r : List UInt8} (h : Cutted l x r) (hl : l.length < 1000000000) (m : Mem) : ∃ b, LV CV (.call 42) [S l, S [58]] m [] = some ⟨.ret, [.tuple #[S x, S r, .bool b]], m, []⟩ := by
  have hc : ∃ b, ∀ m, LV CV (.call 48) [S l, S [58]] m [] = some ⟨.ret, [.tuple #[S x, S r, .bool b]], m, []⟩ := by
    have hi := fun m => index_V l 58 m
    rcases h with ⟨h, rfl, rfl⟩ | ⟨rfl, h⟩
    · rw [indexByte_no h] at hi
      refine ⟨false, fun m => R48 ?_⟩
      simp [x48, hi]
    · rw [indexByte_app r h] at hi
      simp only [List.length_append, List.length_cons] at hl
      have hw : IntKind.wrap .i64 ((x.length : Int) + 1) = (x.length : Int) + 1 := wrap_i64 (by omega) (by omega)
      have h1 : (x.length : Int) ≤ (x.length : Int) + ((r.length : Int) + 1) := by omega
      have h2 : (x.length : Int) + 1 ≤ (x.length : Int) + ((r.length : Int) + 1) := by omega
      have h3 : ((x.length : Int) + 1).toNat = x.length + 1 := by omega
      have h4 : (0 : Int) ≤ (x.length : Int) + 1 := by omega
      refine ⟨true, fun m => R48 ?_⟩
      simp only [x48]
      have h5 : ((x ++ 58 :: r).take (x.length + (r.length + 1))).drop (x.length + 1) = r := by
        rw [List.take_of_length_le (by simp), List.drop_append, List.drop_of_length_le (by omega)]
        simp
      simp [hi, hw, h1, h2, h3, h4, h5]
  obtain ⟨b, hb⟩ := hc
  refine ⟨b, R42 ?_⟩
  simp [x42, hb]
theorem take_V {l x r : List UInt8} (h : Cutted l x r) (hl : l.length < 1000000000) {m : Mem} {o : Nat} (hg : m.get o = some ⟨0, [S l]⟩) (hlo : m.lo ≤ o) : LV CV (.call 37) [.pointer (some ⟨o, 0, none⟩)] m [] = some ⟨.ret, [S x], m.set o ⟨0, [S r]⟩, []⟩ := by
  obtain ⟨b, hc⟩ := cut_V h hl m
  refine R37 ?_
  simp [x37, hg, hc, st_one, hlo, putL]
theorem num_loop {l : List UInt8} (hl : l.length < 1000000000) (least many : Value) {most : Nat} (hm : most ≤ 1000) {m : Mem} {o : Nat} (hg : m.get o = some ⟨1, l.map fun b => .int .u8 b.toNat⟩) : ∀ (k i n : Nat), i + k = l.length → n ≤ most →
    (∀ v, runN most n (l.drop i) = some v → LV CV (.loop 2600) [least, many, .int .i64 most, S l, .int .i64 n, .slice (some ⟨o, 0, none⟩) l.length (l.length + 1), .int .i64 l.length, .int .i64 i] m [] = some ⟨.exit 0, [least, many, .int .i64 most, S l, .int .i64 v, .slice (some ⟨o, 0, none⟩) l.length (l.length + 1), .int .i64 l.length, .int .i64 l.length], m, []⟩) ∧
    (runN most n (l.drop i) = none → ∃ vals, LV CV (.loop 2600) [least, many, .int .i64 most, S l, .int .i64 n, .slice (some ⟨o, 0, none⟩) l.length (l.length + 1), .int .i64 l.length, .int .i64 i] m [] = some ⟨.panic PB, vals, m, []⟩) := by
  intro k
  induction k with
  | zero =>
    intro i n hi hn
    obtain rfl : i = l.length := by omega
    rw [List.drop_length]
    refine ⟨fun v hv => ?_, fun hv => by simp [runN] at hv⟩
    obtain rfl : n = v := by simpa [runN] using hv
    refine Q2600 ?_
    simp [y2600]
  | succ k ih =>
    intro i n hi hn
    have hlt : i < l.length := by omega
    have hb := l[i].toNat_lt
    have hw : IntKind.wrap .i64 ((i : Int) + 1) = (i : Int) + 1 := wrap_i64 (by omega) (by omega)
    have hd : l.drop i = l[i] :: l.drop (i + 1) := List.drop_eq_getElem_cons hlt
    rw [hd]
    by_cases h1 : l[i].toNat < 48
    · have h1' : (l[i].toNat : Int) < 48 := by omega
      have hD : isD l[i] = false := by simp [isD]; omega
      refine ⟨fun v hv => by simp [runN, hD] at hv, fun _ => ⟨[least, many, .int .i64 most, S l, .int .i64 n, .slice (some ⟨o, 0, none⟩) l.length (l.length + 1), .int .i64 l.length, .int .i64 i], Q2600 ?_⟩⟩
      simp [y2600, hlt, hg, h1, h1', PB, cutN]
    · have h1' : ¬ (l[i].toNat : Int) < 48 := by omega
      by_cases h2 : 57 < l[i].toNat
      · have h2' : (57 : Int) < l[i].toNat := by omega
        have hD : isD l[i] = false := by simp [isD]; omega
        refine ⟨fun v hv => by simp [runN, hD] at hv, fun _ => ⟨[least, many, .int .i64 most, S l, .int .i64 n, .slice (some ⟨o, 0, none⟩) l.length (l.length + 1), .int .i64 l.length, .int .i64 i], Q2600 ?_⟩⟩
        simp [y2600, hlt, hg, h1, h1', h2, h2', PB, cutN]
      · have h2' : ¬ (57 : Int) < l[i].toNat := by omega
        have hD : isD l[i] = true := by simp [isD]; omega
        have e0 : (l[i].toNat : Int) - 48 = ((l[i].toNat - 48 : Nat) : Int) := by omega
        have w1 : IntKind.wrap .u8 ((l[i].toNat - 48 : Nat) : Int) = ((l[i].toNat - 48 : Nat) : Int) := wrap_u8 (by omega) (by omega)
        have w2 : IntKind.wrap .i64 ((l[i].toNat - 48 : Nat) : Int) = ((l[i].toNat - 48 : Nat) : Int) := wrap_i64 (by omega) (by omega)
        have w3 : IntKind.wrap .i64 ((n : Int) * 10) = (n : Int) * 10 := wrap_i64 (by omega) (by omega)
        have w4 : IntKind.wrap .i64 ((n : Int) * 10 + ((l[i].toNat - 48 : Nat) : Int)) = ((n * 10 + (l[i].toNat - 48) : Nat) : Int) := by rw [wrap_i64 (by omega) (by omega)]; omega
        simp only [runN, hD, if_true]
        generalize hN : n * 10 + (l[i].toNat - 48) = N at *
        by_cases h3 : most < N
        · have h3' : (most : Int) < N := by omega
          rw [if_pos h3]
          refine ⟨fun v hv => (by cases hv), fun _ => ⟨[least, many, .int .i64 most, S l, .int .i64 N, .slice (some ⟨o, 0, none⟩) l.length (l.length + 1), .int .i64 l.length, .int .i64 i], Q2600 ?_⟩⟩
          simp only [y2600]
          simp [hlt, hg, h1', h2', PB, cutN, e0, w1, w2, w3, w4, h3']
        · have h3' : ¬ (most : Int) < N := by omega
          rw [if_neg h3]
          obtain ⟨i1, i2⟩ := ih (i + 1) N (by omega) (by omega)
          rw [Int.natCast_add, Int.natCast_one] at i1 i2
          refine ⟨fun v hv => Q2600 ?_, fun hv => ?_⟩
          · have e := i1 v hv
            simp only [y2600]
            simp [hlt, hg, h1', h2', PB, cutN, e0, w1, w2, w3, w4, h3', hw, e]
          · obtain ⟨vals, e⟩ := i2 hv
            refine ⟨vals, Q2600 ?_⟩
            simp only [y2600]
            simp [hlt, hg, h1', h2', cutN, e0, w1, w2, w3, w4, h3', hw, e]
theorem number_V {l x r : List UInt8} (h : Cutted l x r) (hl : l.length < 1000000000) {m : Mem} {o : Nat} (hg : m.get o = some ⟨0, [S l]⟩) (hlo : m.lo ≤ o) (hon : o < m.next) (least many : Nat) {most : Nat} (hm : most ≤ 1000) :
    LV CV (.call 26) [.pointer (some ⟨o, 0, none⟩), .int .i64 least, .int .i64 many, .int .i64 most] m [] = some (match numP least many most x with | some v => ⟨.ret, [.int .i64 v], (m.set o ⟨0, [S r]⟩).push ⟨1, x.map fun b => .int .u8 b.toNat⟩, []⟩ | none => ⟨.panic PB, [], (m.set o ⟨0, [S r]⟩).push ⟨1, x.map fun b => .int .u8 b.toNat⟩, []⟩) := by
  have ht := take_V h hl hg hlo
  have hx : x.length < 1000000000 := Nat.lt_of_le_of_lt h.len.1 hl
  obtain ⟨q1, q2⟩ := num_loop hx (.int .i64 least) (.int .i64 many) hm (m := (m.set o ⟨0, [S r]⟩).push ⟨1, x.map fun b => .int .u8 b.toNat⟩) (o := m.next) (by simp) x.length 0 0 (by omega) (Nat.zero_le _)
  simp only [List.drop_zero, Int.natCast_zero] at q1 q2
  rw [numP_run]
  refine R26 ?_
  cases hr : runN most 0 x with
  | none =>
    obtain ⟨vals, e⟩ := q2 hr
    simp [x26, ht, e]
  | some v =>
    have e := q1 v hr
    by_cases h1 : x.length < least
    · have h1' : (x.length : Int) < least := by omega
      have hn : ¬ (least ≤ x.length ∧ x.length ≤ many) := by omega
      simp [x26, ht, e, h1', hn, PB]
    · have h1' : ¬ (x.length : Int) < least := by omega
      by_cases h2 : many < x.length
      · have h2' : (many : Int) < x.length := by omega
        have hn : ¬ (least ≤ x.length ∧ x.length ≤ many) := by omega
        simp [x26, ht, e, h1', h2', hn, PB]
      · have h2' : ¬ (many : Int) < x.length := by omega
        have hn : least ≤ x.length ∧ x.length ≤ many := by omega
        simp [x26, ht, e, h1', h2', hn]
end Go.Proofs.YtbccdlbibcbcfaaDoor.D

namespace Go.Proofs.YtbccdlbibcbcfaaDoor.D
open Go.RowKit
set_option linter.unusedVariables false
set_option linter.unusedSimpArgs false
abbrev pt (o : Nat) : Value := .pointer (some ⟨o, 0, none⟩)
theorem dc_none (a b : Value) (m : Mem) : LV CV (.dcall 23 none) [a, b] m [] = some ⟨.ret, [.bool false], m, []⟩ := by
  have h : CV.irs 23 = some ir23 := rfl
  rw [L_eqV]
  simp only [step1V, h, Option.bind_some]
  rw [if_pos (Nat.le_of_ble_eq_true rfl)]
  simp [ir23, evSV, evOpsSV, recov?, evOpV, guarded, evOp1V, vop, aop, only, aev, finSV]
theorem dc_pan {A K : Nat} {u w : Value} {m : Mem} (hA : m.get A = some ⟨0, [u]⟩) (hK : m.get K = some ⟨0, [w]⟩) (lA : m.lo ≤ A) (lK : m.lo ≤ K) (hne : K ≠ A) : LV CV (.dcall 23 (some PB)) [pt A, pt K] m [] = some ⟨.ret, [.bool true], (m.set A ⟨0, [.int .i64 0]⟩).set K ⟨0, [.int .i64 7]⟩, []⟩ := by
  have h : CV.irs 23 = some ir23 := rfl
  have hb : vIsNil .ifc true PB = some (.bool true) := rfl
  have ha : vAssert 25 false (.int .i64 0) PB = some (.int .i64 7) := rfl
  have hs1 : m.st A 0 [.int .i64 0] = some (m.set A ⟨0, [.int .i64 0]⟩) := by rw [st_some hA lA (by simp)]; rfl
  have hs2 : (m.set A ⟨0, [.int .i64 0]⟩).st K 0 [.int .i64 7] = some ((m.set A ⟨0, [.int .i64 0]⟩).set K ⟨0, [.int .i64 7]⟩) := by rw [st_some (r := ⟨0, [w]⟩) (by rw [Mem.get_set, if_neg hne]; exact hK) (by simpa using lK) (by simp)]; rfl
  rw [L_eqV]
  simp only [step1V, h, Option.bind_some]
  rw [if_pos (Nat.le_of_ble_eq_true rfl)]
  generalize PB = P at *
  simp [ir23, evSV, evOpsSV, recov?, evOpV, guarded, evOp1V, vop, aop, only, aev, finSV, evV, qOpsV, qOpV, qDoV, qRunV, qOp1V, chksV, mask, aStore_eq, hb, ha, hs1, hs2, envOf, put, (show constOk (Value.int .i64 0) = true from rfl)]
/-- Where nothing went wrong. -/
theorem lv_none {A K : Nat} {u w : Value} {env : Env} {m : Mem} (h2 : env 2 = pt A) (h3 : env 3 = pt K) (hA : m.get A = some ⟨0, [u]⟩) (hK : m.get K = some ⟨0, [w]⟩) : leavesV (LV CV) ir19 env [⟨23, [pt A, pt K]⟩] none m = some ⟨.ret, [.tuple #[u, w]], m, []⟩ := by
  unfold leavesV
  simp only [dc_none, Option.bind_some]
  unfold leavesV
  simp [ir19, resOfV, resLV, h2, h3, hA, hK, pack]
/-- Where something did. -/
theorem lv_pan {A K : Nat} {u w : Value} {env : Env} {m : Mem} (h2 : env 2 = pt A) (h3 : env 3 = pt K) (hA : m.get A = some ⟨0, [u]⟩) (hK : m.get K = some ⟨0, [w]⟩) (lA : m.lo ≤ A) (lK : m.lo ≤ K) (hne : K ≠ A) : leavesV (LV CV) ir19 env [⟨23, [pt A, pt K]⟩] (some PB) m = some ⟨.ret, [.tuple #[.int .i64 0, .int .i64 7]], (m.set A ⟨0, [.int .i64 0]⟩).set K ⟨0, [.int .i64 7]⟩, []⟩ := by
  unfold leavesV
  simp only [dc_pan hA hK lA lK hne, Option.bind_some]
  unfold leavesV
  simp [ir19, resOfV, resLV, h2, h3, hA, hK, pack, Mem.get_set, Ne.symm hne]
/-- The cells of the amount, of the kind, of the reader. -/
structure SM (m : Mem) (A K B : Nat) (n : Int) (r : List UInt8) : Prop where
  a : m.get A = some ⟨0, [.int .i64 n]⟩
  k : m.get K = some ⟨0, [.int .i64 0]⟩
  b : m.get B = some ⟨0, [S r]⟩
  la : m.lo ≤ A
  lk : m.lo ≤ K
  lb : m.lo ≤ B
  na : A < m.next
  nk : K < m.next
  nb : B < m.next
  ak : K ≠ A
  ab : B ≠ A
  kb : B ≠ K
theorem SM.read {m : Mem} {A K B : Nat} {n : Int} {r r' : List UInt8} (h : SM m A K B n r) (row : Row) : SM ((m.set B ⟨0, [S r']⟩).push row) A K B n r' := by
  obtain ⟨a, k, b, la, lk, lb, na, nk, nb, ak, ab, kb⟩ := h
  refine ⟨?_, ?_, ?_, by simpa using la, by simpa using lk, by simpa using lb, by simp; omega, by simp; omega, by simp; omega, ak, ab, kb⟩
  · rw [Mem.get_push, if_neg (by simp; omega), Mem.get_set, if_neg (Ne.symm ab)]; exact a
  · rw [Mem.get_push, if_neg (by simp; omega), Mem.get_set, if_neg (Ne.symm kb)]; exact k
  · rw [Mem.get_push, if_neg (by simp; omega), Mem.get_set, if_pos rfl]
theorem SM.setN {m : Mem} {A K B : Nat} {n : Int} {r : List UInt8} (h : SM m A K B n r) (n' : Int) : SM (m.set A ⟨0, [.int .i64 n']⟩) A K B n' r := by
  obtain ⟨a, k, b, la, lk, lb, na, nk, nb, ak, ab, kb⟩ := h
  refine ⟨by simp, ?_, ?_, by simpa using la, by simpa using lk, by simpa using lb, by simpa using na, by simpa using nk, by simpa using nb, ak, ab, kb⟩
  · rw [Mem.get_set, if_neg ak]; exact k
  · rw [Mem.get_set, if_neg ab]; exact b
@[simp] theorem eqv_int (n0 : Nat) (k : IntKind) (n : Int) : eqv n0 (.int k n) (.int k n) = true := by simp [eqv]
@[simp] theorem peekK_int (n0 : Nat) (k : IntKind) (n : Int) (x : Option Out) : peekK n0 (some (.int k n)) (.int k n) x = x := by simp [peekK]
theorem slp_end (A K B : Nat) (low : Value) (c : Nat) (arr : Value) (m : Mem) (d : List Dfr) : LV CV (.loop 1900) [pt A, pt K, low, .int .i64 c, pt B, arr, .int .i64 2] m d = some ⟨.exit 0, [pt A, pt K, low, .int .i64 c, pt B, arr, .int .i64 2], m, d⟩ := by
  refine Q1900 d ?_
  simp [y1900]
def arr2 : Value := .agg #[.int .i64 60, .int .i64 1]
theorem arr2_at {i : Nat} (h : i < 2) : aElem false 2 1 arr2 (.int .i64 i) = some (.int .i64 (if i = 0 then 60 else 1)) := by
  have : i = 0 ∨ i = 1 := by omega
  rcases this with rfl | rfl <;> rfl
theorem slp_skip {A K B : Nat} {low : Value} {c i : Nat} (hi : i < 2) (hc : c ≤ i) {m : Mem} {d : List Dfr} {r : Out} (h : LV CV (.loop 1900) [pt A, pt K, low, .int .i64 c, pt B, arr2, .int .i64 ((i : Int) + 1)] m d = some r) : LV CV (.loop 1900) [pt A, pt K, low, .int .i64 c, pt B, arr2, .int .i64 i] m d = some r := by
  have h1 : (i : Int) < 2 := by omega
  have h2 : ¬ (i : Int) < c := by omega
  have hw : IntKind.wrap .i64 ((i : Int) + 1) = (i : Int) + 1 := wrap_i64 (by omega) (by omega)
  refine Q1900 d ?_
  simp [y1900, h1, h2, arr2_at hi, hw, h]
theorem slp_num {A K B : Nat} {low : Value} {c i n : Nat} {l x r : List UInt8} (hi : i < 2) (hc : i < c) (hn : n ≤ 1000000) {m : Mem} (s : SM m A K B n l) (hx : Cutted l x r) (hl : l.length < 1000000000) (d : List Dfr) :
    (∀ v, numP 2 2 59 x = some v → ∃ m', SM m' A K B ((n + v * (if i = 0 then 60 else 1) : Nat) : Int) r ∧ ∀ res, LV CV (.loop 1900) [pt A, pt K, low, .int .i64 c, pt B, arr2, .int .i64 ((i : Int) + 1)] m' d = some res → LV CV (.loop 1900) [pt A, pt K, low, .int .i64 c, pt B, arr2, .int .i64 i] m d = some res) ∧
    (numP 2 2 59 x = none → ∃ m', SM m' A K B n r ∧ LV CV (.loop 1900) [pt A, pt K, low, .int .i64 c, pt B, arr2, .int .i64 i] m d = some ⟨.panic PB, [pt A, pt K, low, .int .i64 c, pt B, arr2, .int .i64 i], m', d⟩) := by
  have h1 : (i : Int) < 2 := by omega
  have h2 : (i : Int) < c := by omega
  have hw : IntKind.wrap .i64 ((i : Int) + 1) = (i : Int) + 1 := wrap_i64 (by omega) (by omega)
  have hnum := number_V hx hl s.b s.lb s.nb 2 2 (most := 59) (by omega)
  have s2 := s.read (r' := r) ⟨1, x.map fun b => .int .u8 b.toNat⟩
  generalize (m.set B ⟨0, [S r]⟩).push ⟨1, x.map fun b => .int .u8 b.toNat⟩ = m2 at *
  simp only [Int.cast_ofNat_Int] at hnum
  refine ⟨fun v hv => ⟨_, s2.setN _, fun res hr => ?_⟩, fun hv => ⟨m2, s2, ?_⟩⟩
  · rw [hv] at hnum
    have hv2 := numP_le hv
    have hA := s.a
    have hA2 := s2.a
    have hst := st_some (x := .int .i64 ((n + v * (if i = 0 then 60 else 1) : Nat) : Int)) hA2 s2.la (by simp : 0 < (⟨0, [.int .i64 (n : Int)]⟩ : Row).cells.length)
    have hb : v * (if i = 0 then 60 else 1) ≤ 4000 := by split <;> omega
    have w1 : IntKind.wrap .i64 ((v : Int) * (if i = 0 then 60 else 1)) = ((v * (if i = 0 then 60 else 1) : Nat) : Int) := by
      rw [wrap_i64 (by split <;> omega) (by split <;> omega)]
      split <;> simp
    have w2 : IntKind.wrap .i64 ((n : Int) + ((v * (if i = 0 then 60 else 1) : Nat) : Int)) = ((n + v * (if i = 0 then 60 else 1) : Nat) : Int) := by rw [wrap_i64 (by omega) (by omega)]; omega
    generalize hU : (if i = 0 then 60 else 1 : Int) = U at *
    generalize v * (if i = 0 then 60 else 1) = V at *
    generalize n + V = N at *
    refine Q1900 d ?_
    simp only [y1900]
    have ha := arr2_at hi
    rw [hU] at ha
    simp only [putL] at hst
    simp [h1, h2, ha, hA, hA2, hnum, hw, w1, w2, hst, hr]
  · rw [hv] at hnum
    have hA := s.a
    refine Q1900 d ?_
    simp only [y1900]
    simp [h1, h2, arr2_at hi, hA, hnum]
end Go.Proofs.YtbccdlbibcbcfaaDoor.D

namespace Go.Proofs.YtbccdlbibcbcfaaDoor.D
open Go.RowKit
set_option linter.unusedVariables false
set_option linter.unusedSimpArgs false
def tlP : List (List UInt8) → Option Nat
  | [] => some 0
  | [b] => (numP 2 2 59 b).map fun m => m * 60
  | [b, c] => (numP 2 2 59 b).bind fun m => (numP 2 2 59 c).map fun x => m * 60 + x
  | _ => none
theorem secP_cons (a : List UInt8) (ps : List (List UInt8)) (h : ps.length ≤ 2) : secP (a :: ps) = (numP 1 3 167 a).bind fun h => (tlP ps).map fun v => h * 3600 + v := by
  match ps, h with
  | [], _ => cases h1 : numP 1 3 167 a <;> simp [secP, tlP, h1]
  | [b], _ => cases h1 : numP 1 3 167 a <;> cases h2 : numP 2 2 59 b <;> simp [secP, tlP, h1, h2]
  | [b, c], _ => cases h1 : numP 1 3 167 a <;> cases h2 : numP 2 2 59 b <;> cases h3 : numP 2 2 59 c <;> simp [secP, tlP, h1, h2, h3, Nat.add_assoc]
theorem secP_many (p : List (List UInt8)) (h : 3 < p.length) : secP p = none := by
  match p, h with
  | _ :: _ :: _ :: _ :: _, _ => rfl
theorem cutted (l : List UInt8) : ∃ a r ps, Cutted l a r ∧ splitC 58 l = a :: ps ∧ (ps = [] ∨ splitC 58 r = ps) := by
  rcases split_cases 58 l with h | ⟨a, b, rfl, h⟩
  · exact ⟨l, [], [], .inl ⟨h, rfl, rfl⟩, splitC_no 58 l h, .inl rfl⟩
  · exact ⟨a, b, splitC 58 b, .inr ⟨rfl, h⟩, splitC_at 58 a b h, .inr rfl⟩
theorem sec_loop {A K B n : Nat} {low : Value} {r : List UInt8} {ps : List (List UInt8)} (hp : ps = [] ∨ splitC 58 r = ps) (h2 : ps.length ≤ 2) (hn : n ≤ 900000) (hl : r.length < 1000000000) {m : Mem} (s : SM m A K B n r) (d : List Dfr) :
    (∀ v, tlP ps = some v → ∃ m' r', SM m' A K B ((n + v : Nat) : Int) r' ∧ LV CV (.loop 1900) [pt A, pt K, low, .int .i64 ps.length, pt B, arr2, .int .i64 0] m d = some ⟨.exit 0, [pt A, pt K, low, .int .i64 ps.length, pt B, arr2, .int .i64 2], m', d⟩) ∧
    (tlP ps = none → ∃ m' n' r' vals, SM m' A K B n' r' ∧ vals.take 2 = [pt A, pt K] ∧ LV CV (.loop 1900) [pt A, pt K, low, .int .i64 ps.length, pt B, arr2, .int .i64 0] m d = some ⟨.panic PB, vals, m', d⟩) := by
  match ps, h2, hp with
  | [], _, _ =>
    refine ⟨fun v hv => ⟨m, r, by cases hv; exact s, ?_⟩, fun hv => by cases hv⟩
    exact slp_skip (i := 0) (c := 0) (by omega) (by omega) (slp_skip (i := 1) (c := 0) (by omega) (by omega) (slp_end A K B low 0 arr2 m d))
  | [b], _, hp =>
    obtain ⟨x, r2, qs, h1, h2, h3⟩ := cutted r
    rcases hp with hp | hp
    · cases hp
    rw [h2] at hp
    cases hp
    obtain ⟨q1, q2⟩ := slp_num (low := low) (i := 0) (c := 1) (by omega) (by omega) (by omega) s h1 hl d
    refine ⟨fun v hv => ?_, fun hv => ?_⟩
    · simp only [tlP] at hv
      obtain ⟨w, hw, rfl⟩ := Option.map_eq_some_iff.1 hv
      obtain ⟨m', s', k⟩ := q1 w hw
      exact ⟨m', r2, s', k _ (slp_skip (i := 1) (c := 1) (by omega) (by omega) (slp_end A K B low 1 arr2 m' d))⟩
    · simp only [tlP, Option.map_eq_none_iff] at hv
      obtain ⟨m', s', k⟩ := q2 hv
      exact ⟨m', _, _, _, s', rfl, k⟩
  | [b, c], _, hp =>
    obtain ⟨x, r2, qs, h1, h2, h3⟩ := cutted r
    rcases hp with hp | hp
    · cases hp
    rw [h2] at hp
    cases hp
    rcases h3 with h3 | h3
    · cases h3
    have hl2 : r2.length < 1000000000 := Nat.lt_of_le_of_lt h1.len.2 hl
    obtain ⟨y, r3, qs, g1, g2, g3⟩ := cutted r2
    rw [g2] at h3
    cases h3
    obtain ⟨q1, q2⟩ := slp_num (low := low) (i := 0) (c := 2) (by omega) (by omega) (by omega) s h1 hl d
    cases hb : numP 2 2 59 b with
    | none =>
      obtain ⟨m', s', k⟩ := q2 hb
      exact ⟨fun v hv => by simp [tlP, hb] at hv, fun _ => ⟨m', _, _, _, s', rfl, k⟩⟩
    | some w =>
      obtain ⟨m', s', k⟩ := q1 w hb
      have hw := numP_le hb
      obtain ⟨p1, p2⟩ := slp_num (low := low) (i := 1) (c := 2) (by omega) (by omega) (by simp; omega) s' g1 hl2 d
      cases hc : numP 2 2 59 c with
      | none =>
        obtain ⟨m2, s2, k2⟩ := p2 hc
        exact ⟨fun v hv => by simp [tlP, hb, hc] at hv, fun _ => ⟨m2, _, _, _, s2, rfl, k _ k2⟩⟩
      | some z =>
        obtain ⟨m2, s2, k2⟩ := p1 z hc
        refine ⟨fun v hv => ?_, fun hv => by simp [tlP, hb, hc] at hv⟩
        simp only [tlP, hb, hc, Option.bind_some, Option.map_some, Option.some.injEq] at hv
        subst hv
        refine ⟨m2, r3, ?_, k _ (k2 _ (slp_end A K B low 2 arr2 m2 d))⟩
        have e : n + w * (if (0 : Nat) = 0 then 60 else 1) + z * (if (1 : Nat) = 0 then 60 else 1) = n + (w * 60 + z) := by simp; omega
        rw [← e]; exact s2
theorem SM.stA {m : Mem} {A K B : Nat} {n : Int} {r : List UInt8} (h : SM m A K B n r) (v : Int) : m.st A 0 [.int .i64 v] = some (m.set A ⟨0, [.int .i64 v]⟩) := by
  rw [st_some h.a h.la (by simp)]; rfl
theorem SM.stK {m : Mem} {A K B : Nat} {n : Int} {r : List UInt8} (h : SM m A K B n r) : m.st K 0 [.int .i64 0] = some (m.set K ⟨0, [.int .i64 0]⟩) := by
  rw [st_some h.k h.lk (by simp)]; rfl
theorem SM.lv {m : Mem} {A K B : Nat} {n : Int} {r : List UInt8} (h : SM m A K B n r) (env : Env) (h2 : env 2 = pt A) (h3 : env 3 = pt K) : leavesV (LV CV) ir19 env [⟨23, [pt A, pt K]⟩] none (m.set K ⟨0, [.int .i64 0]⟩) = some ⟨.ret, [.tuple #[.int .i64 n, .int .i64 0]], m.set K ⟨0, [.int .i64 0]⟩, []⟩ :=
  lv_none h2 h3 (by rw [Mem.get_set, if_neg (Ne.symm h.ak)]; exact h.a) (by simp)
def secR (s : List UInt8) : Value := match timeP s with | some n => .tuple #[.int .i64 n, .int .i64 0] | none => .tuple #[.int .i64 0, .int .i64 7]
theorem seconds_V {s : List UInt8} (hl : s.length < 1000000000) (m : Mem) : LV CV (.call 19) [S s] m [] = some ⟨.ret, [secR s], m, []⟩ := by
  refine R19 ?_
  generalize hM : (⟨[], m.next, m.next, 0⟩ : Mem) = M
  have hMn : M.next = m.next := by rw [← hM]
  have hMl : M.lo = M.next := by rw [← hM]
  -- the two cells
  have a1 : ((M.push ⟨0, [.int .i64 0]⟩).push ⟨0, [.int .i64 0]⟩).get M.next = some ⟨0, [.int .i64 0]⟩ := by rw [Mem.get_push, if_neg (by simp), Mem.get_push, if_pos rfl]
  have k1 : ((M.push ⟨0, [.int .i64 0]⟩).push ⟨0, [.int .i64 0]⟩).get (M.next + 1) = some ⟨0, [.int .i64 0]⟩ := by rw [Mem.get_push, if_pos (by simp)]
  generalize hM1 : (M.push ⟨0, [.int .i64 0]⟩).push ⟨0, [.int .i64 0]⟩ = M1 at *
  have n1 : M1.next = M.next + 2 := by rw [← hM1]; simp
  have l1 : M1.lo = M.next := by rw [← hM1]; simp [hMl]
  by_cases h45 : s = [45]
  · subst h45
    have hr : secR [45] = .tuple #[.int .i64 0, .int .i64 0] := rfl
    have hs1 := st_some (x := .int .i64 0) a1 (by omega) (by simp : 0 < (⟨0, [.int .i64 (0 : Int)]⟩ : Row).cells.length)
    simp only [putL] at hs1
    have a2 : (M1.set M.next ⟨0, [.int .i64 0]⟩).get M.next = some ⟨0, [.int .i64 0]⟩ := by simp
    have k2 : (M1.set M.next ⟨0, [.int .i64 0]⟩).get (M.next + 1) = some ⟨0, [.int .i64 0]⟩ := by rw [Mem.get_set, if_neg (by omega)]; exact k1
    have hs2 := st_some (x := .int .i64 0) k2 (by simp; omega) (by simp : 0 < (⟨0, [.int .i64 (0 : Int)]⟩ : Row).cells.length)
    simp only [putL] at hs2
    have a3 : ((M1.set M.next ⟨0, [.int .i64 0]⟩).set (M.next + 1) ⟨0, [.int .i64 0]⟩).get M.next = some ⟨0, [.int .i64 0]⟩ := by rw [Mem.get_set, if_neg (by omega)]; exact a2
    have k3 : ((M1.set M.next ⟨0, [.int .i64 0]⟩).set (M.next + 1) ⟨0, [.int .i64 0]⟩).get (M.next + 1) = some ⟨0, [.int .i64 0]⟩ := by simp
    have hlv := fun (env : Env) h2 h3 => lv_none (env := env) h2 h3 a3 k3
    have hx : ∃ m', x19 (LV CV) (S [45]) M = some ⟨.ret, [.tuple #[.int .i64 0, .int .i64 0]], m', []⟩ := by
      refine ⟨?_, ?_⟩
      rotate_left
      · simp only [x19]
        simp only [letK_eq, hM1]
        simp [fn?, hs1, hs2]
        refine hlv _ ?_ ?_ <;> simp
    obtain ⟨m', hx⟩ := hx
    rw [hx]
    first | (rw [hr]; simp) | simp
  · obtain ⟨low, t, ht, hcut, hR⟩ : ∃ (low : Bool) (t : List UInt8), t.length ≤ s.length ∧ (∀ m, LV CV (.call 24) [S s, S [45]] m [] = some ⟨.ret, [.tuple #[S t, .bool low]], m, []⟩) ∧ secR s = (match secP (splitC 58 t) with | some n => .tuple #[.int .i64 (if low = true then -(n : Int) else n), .int .i64 0] | none => .tuple #[.int .i64 0, .int .i64 7]) := by
      by_cases hp : [45] <+: s
      · refine ⟨true, s.drop 1, by simp, fun m => by simp [hp], ?_⟩
        unfold secR timeP
        rw [if_neg h45, if_pos hp]
        cases secP (splitC 58 (s.drop 1)) <;> simp
      · refine ⟨false, s, Nat.le_refl _, fun m => by simp [hp], ?_⟩
        unfold secR timeP
        rw [if_neg h45, if_neg hp]
        cases secP (splitC 58 s) <;> simp
    rw [hR]
    have htl : t.length < 1000000000 := by omega
    obtain ⟨a, r, ps, hx, hsp, hps⟩ := cutted t
    have hcount : t.count 58 = ps.length := by
      have := splitC_len 58 t
      rw [hsp] at this
      simp only [List.length_cons] at this
      omega
    have hcv := fun m => count_V t 58 m
    rw [hcount] at hcv
    rw [hsp]
    by_cases h2 : ps.length ≤ 2
    · have h2' : ¬ (2 : Int) < ps.length := by omega
      rw [secP_cons a ps h2]
      have b1 : (M1.push ⟨0, [S []]⟩).get (M.next + 2) = some ⟨0, [S []]⟩ := by rw [Mem.get_push, if_pos n1.symm]
      have hs0 : (M1.push ⟨0, [S []]⟩).st (M.next + 2) 0 [S t] = some ((M1.push ⟨0, [S []]⟩).set (M.next + 2) ⟨0, [S t]⟩) := by rw [st_some b1 (by simp [l1]) (by simp)]; rfl
      have s0 : SM ((M1.push ⟨0, [S []]⟩).set (M.next + 2) ⟨0, [S t]⟩) M.next (M.next + 1) (M.next + 2) 0 t := by
        refine ⟨?_, ?_, by simp, by simp [l1], by simp [l1], by simp [l1], by simp [n1]; omega, by simp [n1], by simp [n1], by omega, by omega, by omega⟩
        · rw [Mem.get_set, if_neg (by omega), Mem.get_push, if_neg (by omega)]; exact a1
        · rw [Mem.get_set, if_neg (by omega), Mem.get_push, if_neg (by omega)]; exact k1
      generalize hM2 : (M1.push ⟨0, [S []]⟩).set (M.next + 2) ⟨0, [S t]⟩ = M2 at *
      have hnum := number_V hx htl s0.b s0.lb s0.nb 1 3 (most := 167) (by omega)
      simp only [Int.cast_ofNat_Int] at hnum
      have s1 := s0.read (r' := r) ⟨1, a.map fun b => .int .u8 b.toNat⟩
      generalize (M2.set (M.next + 2) ⟨0, [S r]⟩).push ⟨1, a.map fun b => .int .u8 b.toNat⟩ = M3 at *
      have hbuild : aBuild [(0, 1), (1, 1)] [(.int .i64 (0)), (.int .i64 (0))] [(0, (.int .i64 (60))), (1, (.int .i64 (1)))] = some arr2 := rfl
      have hrl : r.length < 1000000000 := Nat.lt_of_le_of_lt hx.len.2 htl
      cases hh : numP 1 3 167 a with
      | none =>
        rw [hh] at hnum
        have hlv := fun (env : Env) h2 h3 => lv_pan (env := env) h2 h3 s1.a s1.k s1.la s1.lk s1.ak
        have hx : ∃ m', x19 (LV CV) (S s) M = some ⟨.ret, [.tuple #[.int .i64 0, .int .i64 7]], m', []⟩ := by
          refine ⟨?_, ?_⟩
          rotate_left
          · simp only [x19]
            simp only [letK_eq, hM1]
            simp [fn?, h45, hcut, hcv, h2', n1, hs0, hnum, cutD, cutK]
            refine hlv _ ?_ ?_ <;> simp
        obtain ⟨m', hx⟩ := hx
        rw [hx]
        simp
      | some h =>
        rw [hh] at hnum
        have hh2 := numP_le hh
        have w1 : IntKind.wrap .i64 ((h : Int) * 3600) = ((h * 3600 : Nat) : Int) := by rw [wrap_i64 (by omega) (by omega)]; omega
        have hst := s1.stA ((h * 3600 : Nat) : Int)
        have s2 := s1.setN ((h * 3600 : Nat) : Int)
        generalize hH : h * 3600 = H at *
        generalize M3.set M.next ⟨0, [.int .i64 (H : Int)]⟩ = M4 at *
        obtain ⟨q1, q2⟩ := sec_loop (low := .bool low) hps h2 (by omega) hrl s2 [⟨23, [pt M.next, pt (M.next + 1)]⟩]
        cases htl2 : tlP ps with
        | none =>
          obtain ⟨m5, n5, r5, vals, s5, hv5, hlp⟩ := q2 htl2
          have hlv := fun (env : Env) h2 h3 => lv_pan (env := env) h2 h3 s5.a s5.k s5.la s5.lk s5.ak
          obtain ⟨rest, rfl⟩ : ∃ rest, vals = pt M.next :: pt (M.next + 1) :: rest := by
            match vals, hv5 with
            | u :: w :: rest, hv5 => simp at hv5; exact ⟨rest, by rw [hv5.1, hv5.2]⟩
          have hx : ∃ m', x19 (LV CV) (S s) M = some ⟨.ret, [.tuple #[.int .i64 0, .int .i64 7]], m', []⟩ := by
            refine ⟨?_, ?_⟩
            rotate_left
            · simp only [x19]
              simp only [letK_eq, hM1]
              simp [fn?, h45, hcut, hcv, h2', n1, hs0, hnum, w1, hst, hbuild, hlp, lpD, lpK, cutD, cutK]
              refine hlv _ ?_ ?_ <;> simp
          obtain ⟨m', hx⟩ := hx
          rw [hx]
          simp
        | some v =>
          obtain ⟨m5, r5, s5, hlp⟩ := q1 v htl2
          have hle : H + v ≤ 604799 := by
            have := secP_le (p := a :: ps) (n := H + v) (by rw [secP_cons a ps h2, hh, htl2]; simp [hH])
            exact this
          simp only [Option.bind_some, Option.map_some]
          rw [hH]
          generalize H + v = N at *
          have w2 : IntKind.wrap .i64 (0 - (N : Int)) = -(N : Int) := by rw [wrap_i64 (by omega) (by omega)]; omega
          have w3 : IntKind.wrap .i64 (-(N : Int)) = -(N : Int) := wrap_i64 (by omega) (by omega)
          have hx : ∃ m', x19 (LV CV) (S s) M = some ⟨.ret, [.tuple #[.int .i64 (if low = true then -(N : Int) else N), .int .i64 0]], m', []⟩ := by
            cases low with
            | true =>
              have s6 := s5.setN (-(N : Int))
              have s7 := s6.setN (-(N : Int))
              have e1 := s5.stA (-(N : Int))
              have e2 := s6.stA (-(N : Int))
              have e3 := s7.stK
              have hlv := s7.lv
              have g5 := s5.a
              have g6 := s6.a
              refine ⟨?_, ?_⟩
              rotate_left
              · simp only [x19]
                simp only [letK_eq, hM1]
                simp [fn?, h45, hcut, hcv, h2', n1, hs0, hnum, w1, hst, hbuild, hlp, lpD, lpK, cutD, cutK, g5, w2, w3]
                simp only [e1, Option.bind_some]
                simp only [g6, Option.bind_some, List.getElem?_cons_zero]
                simp only [aSt_one (single_int _ _), e2, Option.bind_some]
                simp only [e3, Option.bind_some]
                refine hlv _ ?_ ?_ <;> simp
            | false =>
              have s6 := s5.setN (N : Int)
              have e1 := s5.stA (N : Int)
              have e3 := s6.stK
              have hlv := s6.lv
              have g5 := s5.a
              refine ⟨?_, ?_⟩
              rotate_left
              · simp only [x19]
                simp only [letK_eq, hM1]
                simp [fn?, h45, hcut, hcv, h2', n1, hs0, hnum, w1, hst, hbuild, hlp, lpD, lpK, cutD, cutK, g5]
                simp only [e1, Option.bind_some]
                simp only [e3, Option.bind_some]
                refine hlv _ ?_ ?_ <;> simp
          obtain ⟨m', hx⟩ := hx
          rw [hx]
          cases low <;> simp
    · have h2' : (2 : Int) < ps.length := by omega
      have hnone : secP (a :: ps) = none := secP_many _ (by simp; omega)
      rw [hnone]
      have hlv := fun (env : Env) h2 h3 => lv_pan (env := env) h2 h3 a1 k1 (by omega) (by omega) (by omega)
      have hx : ∃ m', x19 (LV CV) (S s) M = some ⟨.ret, [.tuple #[.int .i64 0, .int .i64 7]], m', []⟩ := by
        refine ⟨?_, ?_⟩
        rotate_left
        · simp only [x19]
          simp only [letK_eq, hM1]
          simp [fn?, h45, hcut, hcv, h2']
          refine hlv _ ?_ ?_ <;> simp
      obtain ⟨m', hx⟩ := hx
      rw [hx]
      simp
end Go.Proofs.YtbccdlbibcbcfaaDoor.D
