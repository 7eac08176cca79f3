import Derived.Test.YtibklmjoepckdaaDoorKa
namespace Go.Proofs.YtibklmjoepckdaaDoor.D
open Go.RowKit
set_option linter.unusedVariables false
set_option linter.unusedSimpArgs false
theorem oneL_none (t : List UInt8) : ∀ (ws : List (List UInt8)) (i : Nat), (∀ w ∈ ws, w ≠ t ∧ ¬ t <+: w) → oneL t i 0 ws = 0 := by
  intro ws
  induction ws with
  | nil => intro i h; rfl
  | cons w r ih =>
    intro i h
    unfold oneL
    rw [if_neg (h w (by simp)).1, if_neg (h w (by simp)).2]
    exact ih (i + 1) fun x hx => h x (by simp [hx])
theorem dec_shape {n : Nat} (h : 0 < n) (h2 : n ≤ 9999) : ∃ c t, decP n = c :: t ∧ c ≠ 48 ∧ (48 ≤ c.toNat ∧ c.toNat ≤ 57) ∧ (c :: t).all digitB = true ∧ valD 0 (c :: t) = n ∧ (c :: t).length ≤ 5 := by
  obtain ⟨d1, d2, d3, d4⟩ := decP_digits (n + 1) n (by omega)
  have hl := decP_len 4 n (by omega)
  have h3 := d2 0
  cases hd : decP n with
  | nil => exact absurd hd d4
  | cons c t =>
    rw [hd] at d1 h3 hl
    have h0 := d3 h
    rw [hd] at h0
    simp only [Nat.zero_mul, Nat.zero_add] at h3
    have hc : digitB c = true := by
      simp only [List.all_cons, Bool.and_eq_true] at d1
      exact d1.1
    exact ⟨c, t, rfl, by simpa using h0, by simpa [digitB] using hc, d1, h3, hl⟩
theorem to_dec {n : Nat} (h : 0 < n) (h2 : n ≤ 9999) {a : Int} (ha : a ≤ n) : toP (decP n) a = ((n : Int), 0) := by
  obtain ⟨c, t, e, c48, hc, hall, hv, hl⟩ := dec_shape h h2
  rw [e]
  have hlow : lowB c = c := by unfold lowB; rw [if_neg (by omega)]
  have hne : ∀ k : UInt8, 58 ≤ k.toNat → c ≠ k := fun k hk e => by rw [e] at hc; omega
  have h1 : oneW (c :: t) toW = 0 := by
    unfold oneW
    rw [if_neg (by simp [small])]
    refine oneL_none _ _ _ fun w hw => ?_
    simp only [small, List.map_cons, hlow]
    have n1 : c ≠ 111 := hne 111 (by decide)
    have n2 : c ≠ 109 := hne 109 (by decide)
    simp only [toW, List.mem_cons, List.not_mem_nil, or_false] at hw
    rcases hw with rfl | rfl | rfl <;> exact ⟨by simp [Ne.symm n1, Ne.symm n2], by simp [n1, n2]⟩
  have hp : pint (c :: t) = ((n : Int), 0) := by
    unfold pint
    rw [lowT_eq]
    have h45 : ¬ [45] <+: (c :: t) := by
      have : c ≠ 45 := fun e => by subst e; exact absurd hc (by decide)
      simp [Ne.symm this]
    simp only [h45, decide_false, if_false]
    rw [show pintT false (c :: t) (c :: t) = if c = 48 ∧ (c :: t) ≠ [48] then (0, 3) else if (c :: t).all digitB = true then (if valD 0 (c :: t) ≤ 9223372036854775807 then ((valD 0 (c :: t) : Int), 0) else (0, 2)) else (0, 3) from rfl, if_neg (fun e => c48 e.1), if_pos hall, hv, if_pos (by omega)]
  have hy : yearP (c :: t) = ((n : Int), 0) := by
    unfold yearP
    rw [hp, if_pos ⟨rfl, by dsimp only; omega, by dsimp only; omega⟩]
  unfold toP
  rw [h1, if_neg (by decide), if_neg (by decide), hy, if_pos ⟨rfl, ha⟩]
theorem to_only (a : Int) : toP [111, 110, 108, 121] a = (a, 0) := by
  unfold toP
  rw [if_pos (by decide)]
theorem to_max (a : Int) : toP [109, 97, 120] a = (10000, 0) := by
  unfold toP
  rw [if_neg (by decide), if_pos (by decide)]
theorem back_V (a b : Int) (m : Mem) : LV CV (.call 8) [.int .i64 a, .int .i64 b] m [] = some ⟨.ret, [.bool true], m, []⟩ := by
  refine R8 ?_
  have hs := fun m => show_V a b m
  unfold showP at hs
  by_cases h1 : a < 1 ∨ 9999 < a
  · simp only [if_pos h1] at hs
    simp [x8, hs]
  by_cases h3 : b = 10000
  · subst h3
    simp only [if_neg h1, if_true, maxT] at hs
    have ht := fun m => to_V (l := [109, 97, 120]) (by decide) a m
    simp only [to_max] at ht
    have hna : ¬ a = 10000 := by omega
    simp [x8, hs, ht, hna]
  by_cases h4 : b < a ∨ 9999 < b
  · simp only [if_neg h1, if_neg h3, if_pos h4] at hs
    simp [x8, hs]
  by_cases h7 : b = a
  · subst h7
    simp only [if_neg h1, if_neg h3, if_neg h4, if_true, onlyT] at hs
    have ht := fun m => to_V (l := [111, 110, 108, 121]) (by decide) b m
    simp only [to_only] at ht
    simp [x8, hs, ht, h3]
  · simp only [if_neg h1, if_neg h3, if_neg h4, if_neg h7] at hs
    obtain ⟨n, rfl⟩ : ∃ n : Nat, b = n := ⟨b.toNat, by omega⟩
    simp only [Int.toNat_natCast] at hs
    obtain ⟨c, t, e, c48, hc, hall, hv, hl⟩ := dec_shape (n := n) (by omega) (by omega)
    have ht := fun m => to_V (l := decP n) (by rw [e]; omega) a m
    simp only [to_dec (n := n) (by omega) (by omega) (a := a) (by omega)] at ht
    have n1 : ¬ decP n = [111, 110, 108, 121] := by rw [e]; intro e; simp only [List.cons.injEq] at e; rw [e.1] at hc; exact absurd hc (by decide)
    have n2 : ¬ decP n = [109, 97, 120] := by rw [e]; intro e; simp only [List.cons.injEq] at e; rw [e.1] at hc; exact absurd hc (by decide)
    have h7' : ¬ a = (n : Int) := fun e => h7 e.symm
    simp [x8, hs, ht, n1, n2, h3, h7']
end Go.Proofs.YtibklmjoepckdaaDoor.D
