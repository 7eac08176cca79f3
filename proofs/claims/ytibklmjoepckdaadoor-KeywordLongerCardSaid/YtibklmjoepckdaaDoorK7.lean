import Derived.Test.YtibklmjoepckdaaDoorK4
namespace Go.Proofs.YtibklmjoepckdaaDoor.D
open Go.RowKit
set_option linter.unusedVariables false
set_option linter.unusedSimpArgs false
theorem eqK (c : UInt8) (k : Nat) (h : k < 256) : ((c.toNat : Int) = (k : Int)) = (c = UInt8.ofNat k) := propext ⟨fun e => by
    have : c.toNat = k := by omega
    rw [← this, UInt8.ofNat_toNat], fun e => by subst e; rw [ofNat_toNat h]⟩
theorem rzone_loop (s : List UInt8) (hs : s.length < 1000000000) (m : Mem) : ∀ (k i : Nat) (b : Bool), i + k = s.length →
    LV CV (.loop 1100) [S s, .bool false, .bool b, .int .i64 i] m [] = some ⟨.exit 0, [S s, .bool false, .bool (!zr b (s.drop i)), .int .i64 s.length], m, []⟩ ∨
    (zr b (s.drop i) = false ∧ ∃ x y, LV CV (.loop 1100) [S s, .bool false, .bool b, .int .i64 i] m [] = some ⟨.ret, [S s, .bool false, x, y], m, []⟩) := by
  intro k
  induction k with
  | zero =>
    intro i b hi
    obtain rfl : i = s.length := by omega
    refine .inl (Q1100 ?_)
    simp [y1100, zr]
  | succ k ih =>
    intro i b hi
    have hlt : i < s.length := by omega
    have hw : IntKind.wrap .i64 ((i : Int) + 1) = (i : Int) + 1 := wrap_i64 (by omega) (by omega)
    have hd : s.drop i = s[i] :: s.drop (i + 1) := List.drop_eq_getElem_cons hlt
    rw [hd, zr_cons]
    have c47 : ((s[i].toNat : Int) = 47) = (s[i] = 47) := eqK s[i] 47 (by decide)
    have c43 : ((s[i].toNat : Int) = 43) = (decide (s[i] = 43) = true) := by rw [decide_eq_true_eq]; exact eqK s[i] 43 (by decide)
    have c45 : ((s[i].toNat : Int) = 45) = (decide (s[i] = 45) = true) := by rw [decide_eq_true_eq]; exact eqK s[i] 45 (by decide)
    have c95 : ((s[i].toNat : Int) = 95) = (decide (s[i] = 95) = true) := by rw [decide_eq_true_eq]; exact eqK s[i] 95 (by decide)
    have iT := ih (i + 1) true (by omega)
    have iF := ih (i + 1) false (by omega)
    rw [Int.natCast_add, Int.natCast_one] at iT iF
    have l1 := fun m => letter_V s[i] m
    have l2 := fun m => digit_V s[i] m
    by_cases h47 : s[i] = 47
    · rw [if_pos h47]
      cases b with
      | true => exact .inr ⟨rfl, _, _, Q1100 (by simp [y1100, hlt, c47, h47]; exact ⟨rfl, rfl⟩)⟩
      | false =>
        rcases iT with e | ⟨z, x, y, e⟩
        · exact .inl (Q1100 (by simp [y1100, hlt, c47, h47, hw, e]))
        · exact .inr ⟨by simp [z], x, y, Q1100 (by simp [y1100, hlt, c47, h47, hw, e])⟩
    · rw [if_neg h47]
      generalize letterB s[i] = L at *
      generalize digitB s[i] = D at *
      have d47 : ((s[i].toNat : Int) = 47) = False := by rw [c47]; exact eq_false h47
      generalize decide (s[i] = 43) = q43 at *
      generalize decide (s[i] = 45) = q45 at *
      generalize decide (s[i] = 95) = q95 at *
      cases hok : (L || D || q43 || q95 || (q45 && !b)) with
      | true =>
        rw [Bool.true_and]
        rcases iF with e | ⟨z, x, y, e⟩
        · refine .inl (Q1100 ?_)
          cases q43 <;> cases q95 <;> cases q45 <;> cases L <;> cases D <;> cases b <;>
            first
            | (simp at hok; done)
            | simp [y1100, hlt, d47, c43, c45, c95, l1, l2, hw, e]
        · refine .inr ⟨z, x, y, Q1100 ?_⟩
          cases q43 <;> cases q95 <;> cases q45 <;> cases L <;> cases D <;> cases b <;>
            first
            | (simp at hok; done)
            | simp [y1100, hlt, d47, c43, c45, c95, l1, l2, hw, e]
      | false =>
        refine .inr ⟨rfl, .bool b, .int .i64 i, Q1100 ?_⟩
        cases q43 <;> cases q95 <;> cases q45 <;> cases L <;> cases D <;> cases b <;>
            first
            | (simp at hok; done)
            | simp [y1100, hlt, d47, c43, c45, c95, l1, l2, hw]
theorem rzone_V {s : List UInt8} (hs : s.length < 1000000000) (m : Mem) : LV CV (.call 11) [S s] m [] = some ⟨.ret, [.bool (zoneP s)], m, []⟩ := by
  refine R11 ?_
  rw [zone_eq]
  by_cases h1 : (s.length : Int) < 1
  · have h1' : ¬ 1 ≤ s.length := by omega
    have h0 : s = [] := List.eq_nil_of_length_eq_zero (by omega)
    subst h0
    simp [x11]
  · by_cases h : (30 : Int) < s.length
    · have h' : ¬ s.length ≤ 30 := by omega
      simp [x11, h1, h, h']
    · have h' : s.length ≤ 30 := by omega
      have h1' : 1 ≤ s.length := by omega
      have e := rzone_loop s hs ⟨[], m.next, m.next, 0⟩ s.length 0 true (by omega)
      simp only [List.drop_zero, Int.natCast_zero] at e
      rcases e with e | ⟨z, x, y, e⟩
      · simp [x11, h1, h, h', h1', e]
      · simp [x11, h1, h, h', h1', e, z]
theorem okB_rule (c : UInt8) : okB [45, 95] c = (letterB c || digitB c || decide (c = 45) || decide (c = 95)) := by
  unfold okB
  have : decide (c ∈ [45, 95]) = (decide (c = 45) || decide (c = 95)) := by
    rw [Bool.eq_iff_iff]
    simp
  rw [this]
  cases letterB c <;> cases digitB c <;> simp
theorem rrule_loop (s : List UInt8) (hs : s.length < 1000000000) (m : Mem) : ∀ (k i : Nat), i + k = s.length →
    ∃ x, LV CV (.loop 1300) [S s, .bool false, .int .i64 i] m [] = some ⟨if (s.drop i).all (okB [45, 95]) = true then .exit 0 else .ret, [S s, .bool false, x], m, []⟩ := by
  intro k
  induction k with
  | zero =>
    intro i hi
    obtain rfl : i = s.length := by omega
    exact ⟨_, Q1300 (by simp [y1300]; rfl)⟩
  | succ k ih =>
    intro i hi
    have hlt : i < s.length := by omega
    have hw : IntKind.wrap .i64 ((i : Int) + 1) = (i : Int) + 1 := wrap_i64 (by omega) (by omega)
    have hd : s.drop i = s[i] :: s.drop (i + 1) := List.drop_eq_getElem_cons hlt
    rw [hd, List.all_cons, okB_rule]
    have c45 : ((s[i].toNat : Int) = 45) = (decide (s[i] = 45) = true) := by rw [decide_eq_true_eq]; exact eqK s[i] 45 (by decide)
    have c95 : ((s[i].toNat : Int) = 95) = (decide (s[i] = 95) = true) := by rw [decide_eq_true_eq]; exact eqK s[i] 95 (by decide)
    obtain ⟨x, e⟩ := ih (i + 1) (by omega)
    rw [Int.natCast_add, Int.natCast_one] at e
    have l1 := fun m => letter_V s[i] m
    have l2 := fun m => digit_V s[i] m
    generalize letterB s[i] = L at *
    generalize digitB s[i] = D at *
    generalize decide (s[i] = 45) = q45 at *
    generalize decide (s[i] = 95) = q95 at *
    cases hok : (L || D || q45 || q95) with
    | true =>
      rw [Bool.true_and]
      refine ⟨x, Q1300 ?_⟩
      cases q95 <;> cases q45 <;> cases L <;> cases D <;>
        first
        | (simp at hok; done)
        | simp [y1300, hlt, c45, c95, l1, l2, hw, e]
    | false =>
      refine ⟨.int .i64 i, Q1300 ?_⟩
      cases q95 <;> cases q45 <;> cases L <;> cases D <;>
        first
        | (simp at hok; done)
        | simp [y1300, hlt, c45, c95, l1, l2, hw]
theorem rrule_V {s : List UInt8} (hs : s.length < 1000000000) (m : Mem) : LV CV (.call 13) [S s] m [] = some ⟨.ret, [.bool (ruleP s)], m, []⟩ := by
  refine R13 ?_
  rw [rule_eq]
  cases s with
  | nil => simp [x13]
  | cons c t =>
    have n1 : ¬ ((t.length : Int) + 1 < 1) := by omega
    by_cases h : (30 : Int) < (t.length : Int) + 1
    · have h' : ¬ t.length + 1 ≤ 30 := by omega
      simp [x13, n1, h, h']
    · have h' : t.length + 1 ≤ 30 := by omega
      obtain ⟨x, e⟩ := rrule_loop (c :: t) hs ⟨[], m.next, m.next, 0⟩ t.length 1 (by simp; omega)
      simp only [List.drop_succ_cons, List.drop_zero, Int.natCast_one] at e
      dsimp only
      have c95 : ((c.toNat : Int) = 95) = (decide (c = 95) = true) := by rw [decide_eq_true_eq]; exact eqK c 95 (by decide)
      have l1 := fun m => letter_V c m
      generalize letterB c = L at *
      generalize hA : t.all (okB [45, 95]) = A at *
      generalize decide (c = 95) = q95 at *
      cases q95 <;> cases L <;> cases A <;> simp only [if_true, Bool.false_eq_true, if_false] at e <;> simp [x13, n1, h, h', c95, l1, e, hA]
end Go.Proofs.YtibklmjoepckdaaDoor.D
