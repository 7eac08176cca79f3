/-
  Names of zones and of rules: as they are meant.
-/
import Derived.Test.YtibklmjoepckdaaDoorKp
import Derived.Lib.Split
import Derived.Lib.IndexBytes
namespace Go.Proofs.YtibklmjoepckdaaDoor.D
open Go.RowKit
set_option linter.unusedVariables false
set_option linter.unusedSimpArgs false
def letterB (b : UInt8) : Bool := decide (97 ≤ b.toNat ∧ b.toNat ≤ 122) || decide (65 ≤ b.toNat ∧ b.toNat ≤ 90)
def digitB (b : UInt8) : Bool := decide (48 ≤ b.toNat ∧ b.toNat ≤ 57)
theorem letter_fin : ∀ n : Fin 256, (decide (97 ≤ (UInt8.ofNat n.val ||| 32).toNat) && decide ((UInt8.ofNat n.val ||| 32).toNat ≤ 122) && decide (n.val < 128)) = letterB (UInt8.ofNat n.val) := by decide +kernel
theorem letter_or (b : UInt8) : (decide (97 ≤ (b ||| 32).toNat) && decide ((b ||| 32).toNat ≤ 122) && decide (b.toNat < 128)) = letterB b := by
  have := letter_fin ⟨b.toNat, b.toNat_lt⟩
  simpa using this
def okB (more : List UInt8) (b : UInt8) : Bool := letterB b || digitB b || decide (b ∈ more)
def wordP (s more first : List UInt8) : Bool := match s with | [] => false | c :: _ => !decide (c ∈ first) && s.all (okB more)
theorem indexByte_mem (l : List UInt8) (c : UInt8) : decide (0 ≤ Lib.indexByte l c) = decide (c ∈ l) := by
  induction l with
  | nil => simp [Lib.indexByte]
  | cons b t ih =>
    unfold Lib.indexByte
    by_cases h : b = c
    · subst h; simp
    · have hb : ¬ (b == c) = true := by simpa using h
      rw [if_neg hb]
      have hge := Lib.indexByte_ge t c
      have hm : (c ∈ b :: t) = (c ∈ t) := by simp [Ne.symm h]
      simp only [hm, ← ih]
      split
      · rename_i e
        have := beq_iff_eq.1 e
        rw [this]
      · rename_i e
        have : Lib.indexByte t c ≠ -1 := fun x => e (beq_iff_eq.2 x)
        simp only [decide_eq_decide]
        omega
/-- Parts between a byte. -/
def splitC (c : UInt8) : List UInt8 → List (List UInt8)
  | [] => [[]]
  | b :: t => if b = c then [] :: splitC c t else (match splitC c t with | h :: r => (b :: h) :: r | [] => [[b]])
theorem splitC_cons (c b : UInt8) (t : List UInt8) : splitC c (b :: t) = if b = c then [] :: splitC c t else (match splitC c t with | h :: r => (b :: h) :: r | [] => [[b]]) := rfl
theorem splitC_ne (c : UInt8) (l : List UInt8) : ∃ h r, splitC c l = h :: r := by
  cases l with
  | nil => exact ⟨_, _, rfl⟩
  | cons b t =>
    unfold splitC
    split
    · exact ⟨_, _, rfl⟩
    · split <;> exact ⟨_, _, rfl⟩
theorem splitC_app (c : UInt8) (a b : List UInt8) : splitC c (a ++ c :: b) = splitC c a ++ splitC c b := by
  induction a with
  | nil => simp [splitC]
  | cons x t ih =>
    simp only [List.cons_append]
    rw [splitC_cons, splitC_cons]
    by_cases h : x = c
    · rw [if_pos h, if_pos h, ih]; rfl
    · rw [if_neg h, if_neg h, ih]
      obtain ⟨y, r, e⟩ := splitC_ne c t
      rw [e]; rfl
theorem splitC_no (c : UInt8) (l : List UInt8) (h : c ∉ l) : splitC c l = [l] := by
  induction l with
  | nil => rfl
  | cons b t ih =>
    simp only [List.mem_cons, not_or] at h
    unfold splitC
    rw [if_neg (Ne.symm h.1), ih h.2]
def zoneP (s : List UInt8) : Bool := decide (s.length ≤ 30) && (splitC 47 s).all fun p => wordP p [43, 45, 95] [45]
def ruleP (s : List UInt8) : Bool := decide (s.length ≤ 30) && wordP s [45, 95] [45, 48, 49, 50, 51, 52, 53, 54, 55, 56, 57]
/-- The document's walk. -/
def zr : Bool → List UInt8 → Bool
  | b, [] => !b
  | b, c :: t => if c = 47 then (!b && zr true t) else ((letterB c || digitB c || decide (c = 43) || decide (c = 95) || (decide (c = 45) && !b)) && zr false t)
theorem zr_cons (b : Bool) (c : UInt8) (t : List UInt8) : zr b (c :: t) = if c = 47 then (!b && zr true t) else ((letterB c || digitB c || decide (c = 43) || decide (c = 95) || (decide (c = 45) && !b)) && zr false t) := rfl
theorem zr_split : ∀ (s : List UInt8), zr true s = (splitC 47 s).all (fun p => wordP p [43, 45, 95] [45]) ∧ zr false s = (match splitC 47 s with | h :: r => h.all (okB [43, 45, 95]) && r.all (fun p => wordP p [43, 45, 95] [45]) | [] => true) := by
  intro s
  induction s with
  | nil => exact ⟨rfl, rfl⟩
  | cons c t ih =>
    obtain ⟨i1, i2⟩ := ih
    rw [zr_cons, zr_cons, splitC_cons]
    by_cases hc : c = 47
    · subst hc
      simp only [if_true, i1, List.all_cons, wordP, Bool.false_and, Bool.not_true, List.all_nil, Bool.true_and, Bool.not_false]
      exact ⟨trivial, trivial⟩
    · rw [if_neg hc, if_neg hc, if_neg hc]
      obtain ⟨h, r, e⟩ := splitC_ne 47 t
      rw [e] at i2 ⊢
      simp only at i2 ⊢
      rw [i2]
      have e1 : okB [43, 45, 95] c = (letterB c || digitB c || decide (c = 43) || decide (c = 95) || decide (c = 45)) := by
        unfold okB
        have : decide (c ∈ [43, 45, 95]) = (decide (c = 43) || decide (c = 95) || decide (c = 45)) := by
          rw [Bool.eq_iff_iff]
          simp only [decide_eq_true_iff, Bool.or_eq_true, List.mem_cons, List.not_mem_nil, or_false]
          constructor
          · rintro (h | h | h) <;> simp [h]
          · rintro ((h | h) | h) <;> simp [h]
        rw [this]
        cases letterB c <;> cases digitB c <;> simp
      have e2 : (!decide (c ∈ [45]) && okB [43, 45, 95] c) = (letterB c || digitB c || decide (c = 43) || decide (c = 95)) := by
        rw [e1]
        by_cases h45 : c = 45
        · subst h45; decide
        · simp [h45]
      constructor
      · simp only [List.all_cons, wordP]
        rw [← Bool.and_assoc (!decide (c ∈ [45])), e2]
        simp only [Bool.not_true, Bool.and_false, Bool.or_false]
        rw [Bool.and_assoc]
      · simp only [List.all_cons, Bool.not_false, Bool.and_true, e1]
        rw [Bool.and_assoc]
theorem zone_eq (s : List UInt8) : zoneP s = (decide (1 ≤ s.length) && decide (s.length ≤ 30) && zr true s) := by
  unfold zoneP
  rw [(zr_split s).1]
  cases s with
  | nil => rfl
  | cons c t => simp
theorem rule_eq (s : List UInt8) : ruleP s = (decide (s.length ≤ 30) && (match s with | [] => false | c :: t => (letterB c || decide (c = 95)) && t.all (okB [45, 95]))) := by
  unfold ruleP wordP
  cases s with
  | nil => rfl
  | cons c t =>
    simp only [List.all_cons]
    have hd : ∀ n : Fin 256, (!decide (UInt8.ofNat n.val ∈ [45, 48, 49, 50, 51, 52, 53, 54, 55, 56, 57]) && okB [45, 95] (UInt8.ofNat n.val)) = (letterB (UInt8.ofNat n.val) || decide (UInt8.ofNat n.val = 95)) := by decide +kernel
    have := hd ⟨c.toNat, c.toNat_lt⟩
    simp only [UInt8.ofNat_toNat] at this
    rw [← this, Bool.and_assoc]
/-- The library's split at a byte. -/
theorem indexByte_at (c : UInt8) : ∀ (l : List UInt8) (i : Nat), Lib.indexByte l c = i → c ∉ l.take i ∧ l = l.take i ++ c :: l.drop (i + 1) := by
  intro l
  induction l with
  | nil => intro i h; unfold Lib.indexByte at h; omega
  | cons b t ih =>
    intro i h
    unfold Lib.indexByte at h
    split at h
    · rename_i hb
      have := beq_iff_eq.1 hb
      subst this
      obtain rfl : i = 0 := by omega
      simp
    · rename_i hb
      have hbc : b ≠ c := fun e => hb (beq_iff_eq.2 e)
      split at h
      · omega
      · have hge := Lib.indexByte_ge t c
        rename_i hn
        have hn' : Lib.indexByte t c ≠ -1 := fun e => hn (beq_iff_eq.2 e)
        obtain ⟨j, rfl⟩ : ∃ j, i = j + 1 := ⟨i - 1, by omega⟩
        obtain ⟨a1, a2⟩ := ih j (by omega)
        refine ⟨by simpa [Ne.symm hbc] using a1, ?_⟩
        simp only [List.take_succ_cons, List.drop_succ_cons, List.cons_append]
        rw [← a2]
theorem indexByte_none (c : UInt8) (l : List UInt8) (h : Lib.indexByte l c = -1) : c ∉ l := by
  have := indexByte_mem l c
  rw [h] at this
  simpa using this
theorem split_fuel (c : UInt8) : ∀ (n : Nat) (l : List UInt8) (f : Nat), l.length ≤ n → l.length < f → Lib.splitK [c] 0 (Lib.countFrom [c] f l) l = splitC c l := by
  intro n
  induction n with
  | zero =>
    intro l f hn hf
    have : l = [] := List.eq_nil_of_length_eq_zero (by omega)
    subst this
    obtain ⟨g, rfl⟩ : ∃ g, f = g + 1 := ⟨f - 1, by omega⟩
    unfold Lib.countFrom
    rw [if_pos (by rfl)]
    rfl
  | succ n ih =>
    intro l f hn hf
    obtain ⟨g, rfl⟩ : ∃ g, f = g + 1 := ⟨f - 1, by omega⟩
    unfold Lib.countFrom
    rw [Lib.index_one]
    have hge := Lib.indexByte_ge l c
    by_cases hm : Lib.indexByte l c = -1
    · rw [if_pos (beq_iff_eq.2 hm)]
      rw [splitC_no c l (indexByte_none c l hm)]
      rfl
    · rw [if_neg (fun e => hm (beq_iff_eq.1 e))]
      obtain ⟨i, hi⟩ : ∃ i : Nat, Lib.indexByte l c = i := ⟨(Lib.indexByte l c).toNat, by omega⟩
      obtain ⟨a1, a2⟩ := indexByte_at c l i hi
      have hlen : i < l.length := by
        have := congrArg List.length a2
        simp only [List.length_append, List.length_cons, List.length_take, List.length_drop] at this
        omega
      rw [hi]
      simp only [Int.toNat_natCast, List.length_singleton]
      rw [Nat.add_comm 1, Lib.splitK, Lib.index_one, if_neg (fun e => hm (beq_iff_eq.1 e)), hi]
      simp only [Int.toNat_natCast, List.length_singleton, Nat.add_zero]
      rw [ih (l.drop (i + 1)) g (by simp; omega) (by simp; omega)]
      conv => rhs; rw [a2]
      rw [splitC_app, splitC_no c _ a1]
      rfl
theorem split_eq (c : UInt8) (l : List UInt8) : Lib.split l [c] = splitC c l := split_fuel c l.length l (l.length + 1) (Nat.le_refl _) (Nat.lt_succ_self _)
end Go.Proofs.YtibklmjoepckdaaDoor.D
