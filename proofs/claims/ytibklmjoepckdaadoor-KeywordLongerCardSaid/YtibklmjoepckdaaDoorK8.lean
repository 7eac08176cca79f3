import Derived.Test.YtibklmjoepckdaaDoorK7
namespace Go.Proofs.YtibklmjoepckdaaDoor.D
open Go.RowKit
set_option linter.unusedVariables false
set_option linter.unusedSimpArgs false
theorem names_V {s : List UInt8} (m : Mem) : LV CV (.call 3) [S s] m [] = some ⟨.ret, [.bool true], m, []⟩ := by
  refine R3 ?_
  by_cases h : (200 : Int) < s.length
  · simp [x3, h]
  · have hs : s.length < 1000000000 := by omega
    simp [x3, h, zone_V hs, rzone_V hs, rule_V hs, rrule_V hs]
theorem zone_join {a b : List UInt8} (ha : zoneP a = true) (hb : zoneP b = true) : zoneP (a ++ 47 :: b) = decide ((a ++ 47 :: b).length ≤ 30) := by
  unfold zoneP at *
  rw [splitC_app, List.all_append]
  simp only [Bool.and_eq_true] at ha hb
  rw [ha.2, hb.2]
  simp
theorem zone_end (a : List UInt8) : zoneP (a ++ [47]) = false := by
  unfold zoneP
  rw [splitC_app, List.all_append]
  simp [splitC, wordP]
theorem zone_begin (a : List UInt8) : zoneP (47 :: a) = false := by
  unfold zoneP
  rw [splitC_cons]
  simp [wordP]
theorem rule_slash (a : List UInt8) : ruleP (a ++ [47, 98]) = false := by
  unfold ruleP wordP
  have h : (a ++ [47, 98]).all (okB [45, 95]) = false := by
    rw [List.all_append]
    have : [47, 98].all (okB [45, 95]) = false := by decide
    rw [this, Bool.and_false]
  split
  · simp
  · rename_i e; rw [h]; simp
theorem rule_zone {a : List UInt8} (h : ruleP a = true) : zoneP a = true := by
  unfold ruleP wordP at h
  unfold zoneP
  cases a with
  | nil => simp at h
  | cons c t =>
    simp only [Bool.and_eq_true] at h
    obtain ⟨h1, h2, h3⟩ := h
    have hall := List.all_eq_true.1 h3
    have hno : (47 : UInt8) ∉ c :: t := fun e => by
      have := hall 47 e
      exact absurd this (by decide)
    rw [splitC_no 47 _ hno, h1]
    simp only [List.all_cons, List.all_nil, Bool.and_true, Bool.true_and, wordP, Bool.and_eq_true]
    refine ⟨by simp at h2 ⊢; exact h2.1, ?_⟩
    have ho : ∀ x, okB [45, 95] x = true → okB [43, 45, 95] x = true := by
      intro x hx
      unfold okB at *
      simp only [Bool.or_eq_true, decide_eq_true_eq, List.mem_cons, List.not_mem_nil, or_false] at *
      rcases hx with h | h | h
      · exact .inl h
      · exact .inr (.inr (.inl h))
      · exact .inr (.inr (.inr h))
    exact ⟨ho c (hall c (by simp)), List.all_eq_true.2 fun x hx => ho x (hall x (by simp [hx]))⟩
theorem parts_V {a b : List UInt8} (m : Mem) : LV CV (.call 4) [S a, S b] m [] = some ⟨.ret, [.bool true], m, []⟩ := by
  refine R4 ?_
  by_cases h : (100 : Int) < a.length
  · simp [x4, h]
  by_cases h' : (100 : Int) < b.length
  · simp [x4, h, h']
  have la : a.length < 1000000000 := by omega
  have lb : b.length < 1000000000 := by omega
  have lc : (a ++ 47 :: b).length < 1000000000 := by simp; omega
  have l1 : a.length + 1 ≤ 4611686018427387904 := by omega
  have l1' : 1 + a.length ≤ 4611686018427387904 := by omega
  have l2 : a.length + 1 + b.length ≤ 4611686018427387904 := by omega
  have l3 : a.length + 2 ≤ 4611686018427387904 := by omega
  have w1 : IntKind.wrap .i64 ((a.length : Int) + 1) = (a.length : Int) + 1 := wrap_i64 (by omega) (by omega)
  have w2 : IntKind.wrap .i64 ((a.length : Int) + 1 + b.length) = (a.length : Int) + 1 + b.length := wrap_i64 (by omega) (by omega)
  have z1 := fun m => zone_V la m
  have z2 := fun m => zone_V lb m
  have z3 := fun m => zone_V lc m
  have z4 := fun m => zone_V (s := a ++ [47]) (by simp; omega) m
  have z5 := fun m => zone_V (s := 47 :: a) (by simp; omega) m
  have r1 := fun m => rule_V la m
  have r2 := fun m => rule_V (s := a ++ [47, 98]) (by simp; omega) m
  simp only [zone_end, zone_begin] at z4 z5
  simp only [rule_slash] at r2
  have hz : ruleP a = true → zoneP a = true := rule_zone
  have hj : zoneP a = true → zoneP b = true → zoneP (a ++ 47 :: b) = decide ((a ++ 47 :: b).length ≤ 30) := fun x y => zone_join x y
  have hlen : ((a.length : Int) + 1 + b.length ≤ 30) = ((a ++ 47 :: b).length ≤ 30) := by
    rw [List.length_append, List.length_cons]
    exact propext (by omega)
  generalize zoneP a = za at *
  generalize zoneP b = zb at *
  generalize ruleP a = ra at *
  generalize (a ++ 47 :: b).length = L at *
  cases za <;> cases zb <;> cases ra <;> first
    | (exfalso; simp at hz; done)
    | (have hj' := hj rfl rfl
       rw [hj'] at z3
       simp [x4, h, h', l1, l1', l2, l3, w1, w2, z1, z2, z3, z4, z5, r1, r2, hlen])
    | simp [x4, h, h', l1, l1', l2, l3, w1, w2, z1, z2, z4, z5, r1, r2, hlen]
end Go.Proofs.YtibklmjoepckdaaDoor.D
