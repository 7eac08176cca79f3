import Derived.Test.YthihiidooomdnaaDoorWg
namespace Go.Proofs.YthihiidooomdnaaDoor.D
open Go.RowKit
set_option linter.unusedVariables false
set_option linter.unusedSimpArgs false
theorem same_loop {a b : List UInt8} (hl : a.length = b.length) (ha : a.length < 1000000000) (n1 t1 n2 t2 : Bool) (m : Mem) : ∀ (k i : Nat), i + k = a.length →
    ∃ x, LV CV (.loop 800) [sq n1 t1 1 (a.map eb), sq n2 t2 1 (b.map eb), .bool false, .int .i64 i] m [] = some ⟨if a.drop i = b.drop i then .exit 0 else .ret, [sq n1 t1 1 (a.map eb), sq n2 t2 1 (b.map eb), .bool false, x], m, []⟩ := by
  intro k
  induction k with
  | zero =>
    intro i hi
    obtain rfl : i = a.length := by omega
    have e : a.drop a.length = b.drop a.length := by rw [List.drop_length, hl, List.drop_length]
    exact ⟨_, Q800 (by rw [if_pos e]; simp [y800]; rfl)⟩
  | succ k ih =>
    intro i hi
    have hlt : i < a.length := by omega
    have hlt2 : i < b.length := by omega
    have hw : IntKind.wrap .i64 ((i : Int) + 1) = (i : Int) + 1 := wrap_i64 (by omega) (by omega)
    obtain ⟨x, e⟩ := ih (i + 1) (by omega)
    rw [Int.natCast_add, Int.natCast_one] at e
    have hd : a.drop i = a[i] :: a.drop (i + 1) := List.drop_eq_getElem_cons hlt
    have hd2 : b.drop i = b[i] :: b.drop (i + 1) := List.drop_eq_getElem_cons hlt2
    have hc : ((a[i].toNat : Int) = (b[i].toNat : Int)) = (a[i] = b[i]) := propext ⟨fun h => UInt8.toNat_inj.1 (by omega), fun h => by rw [h]⟩
    have hc2 : (a[i].toNat = b[i].toNat) = (a[i] = b[i]) := propext UInt8.toNat_inj
    rw [hd, hd2]
    by_cases h : a[i] = b[i]
    · refine ⟨x, Q800 ?_⟩
      have hif : (a[i] :: a.drop (i + 1) = b[i] :: b.drop (i + 1)) = (a.drop (i + 1) = b.drop (i + 1)) := propext ⟨fun e => (List.cons.inj e).2, fun e => by rw [h, e]⟩
      simp only [hif]
      rw [← e]
      simp [y800, hlt, hlt2, hc, h, hw]
    · refine ⟨.int .i64 i, Q800 ?_⟩
      rw [if_neg (fun e => h (List.cons.inj e).1)]
      simp [y800, hlt, hlt2, hc, hc2, h, hw]
theorem same_V {a b : List UInt8} (ha : a.length < 1000000000) (n1 t1 n2 t2 : Bool) (m : Mem) : LV CV (.call 8) [sq n1 t1 1 (a.map eb), sq n2 t2 1 (b.map eb)] m [] = some ⟨.ret, [.bool (decide (a = b))], m, []⟩ := by
  refine R8 ?_
  by_cases hl : a.length = b.length
  · obtain ⟨x, e⟩ := same_loop hl ha n1 t1 n2 t2 ⟨[], m.next, m.next, 0⟩ a.length 0 (by omega)
    simp only [List.drop_zero, Int.natCast_zero] at e
    have hl' : (a.length : Int) = b.length := by omega
    by_cases h : a = b
    · subst h
      rw [if_pos rfl] at e
      simp [x8, e]
    · rw [if_neg h] at e
      simp [x8, hl, e, h]
  · have h : a ≠ b := fun e => hl (by rw [e])
    have hl' : ¬ (a.length : Int) = b.length := by omega
    simp [x8, hl, hl', h]
theorem sq_nil : sq false false 1 (([] : List UInt8).map eb) = .slice none 0 0 := by simp [sq]
theorem frames_V (nn tt : Bool) (l : List UInt8) (m : Mem) : LV CV (.call 3) [sq nn tt 1 (l.map eb)] m [] = some ⟨.ret, [.bool true], m, []⟩ := by
  refine R3 ?_
  have h1 := fun m => frame_V nn tt l m
  have h2 := fun m => rframe_V nn tt l m
  unfold frameV at h1 h2
  by_cases h : 20000 < l.length
  · simp only [if_pos h] at h1 h2
    have h3 := fun m => same_V (a := []) (b := []) (by decide) false false false false m
    simp only [sq_nil] at h3
    simp [x3, h1, h2, h3]
  · simp only [if_neg h] at h1 h2
    have hd := dd_len 4 l.length (by omega)
    have h3 := fun m => same_V (a := frameP l) (b := frameP l) (by simp [frameP]; omega) false false false false m
    generalize frameP l = F at *
    simp [x3, h1, h2, h3]
end Go.Proofs.YthihiidooomdnaaDoor.D
