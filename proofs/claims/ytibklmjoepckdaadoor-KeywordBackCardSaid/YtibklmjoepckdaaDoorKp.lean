/-
  Words, years, names: as they are meant.
-/
import Derived.Test.YtibklmjoepckdaaDoorV7
namespace Go.Proofs.YtibklmjoepckdaaDoor.D
open Go.RowKit
set_option linter.unusedVariables false
set_option linter.unusedSimpArgs false
def lowB (b : UInt8) : UInt8 := if 65 ≤ b.toNat ∧ b.toNat ≤ 90 then UInt8.ofNat (b.toNat + 32) else b
theorem lowB_or : ∀ n : Fin 256, 65 ≤ n.val → n.val ≤ 90 → (UInt8.ofNat n.val ||| 32) = UInt8.ofNat (n.val + 32) := by decide +kernel
theorem lowB_eq {b : UInt8} (h1 : 65 ≤ b.toNat) (h2 : b.toNat ≤ 90) : (b ||| 32) = UInt8.ofNat (b.toNat + 32) := by
  have := lowB_or ⟨b.toNat, by have := b.toNat_lt; omega⟩ h1 h2
  simpa using this
theorem ofNat_toNat {n : Nat} (h : n < 256) : (UInt8.ofNat n).toNat = n := by simp [UInt8.toNat_ofNat']; omega
def small (l : List UInt8) : List UInt8 := l.map lowB
def oneL (t : List UInt8) : Nat → Int → List (List UInt8) → Int
  | _, a, [] => max a 0
  | i, a, w :: r => if w = t then (i : Int) + 1 else if t <+: w then oneL t (i + 1) (if a ≠ 0 then -1 else (i : Int) + 1) r else oneL t (i + 1) a r
def oneW (s : List UInt8) (ws : List (List UInt8)) : Int := if small s = [] then 0 else oneL (small s) 0 0 ws
def findL (t : List UInt8) : Nat → Int → Nat → List (List UInt8) → Int
  | _, a, n, [] => if n = 1 then a else 0
  | i, a, n, w :: r => if t <+: w then (if w = t then (i : Int) + 1 else findL t (i + 1) ((i : Int) + 1) (n + 1) r) else findL t (i + 1) a n r
def findW (s : List UInt8) (ws : List (List UInt8)) : Int := if small s = [] then 0 else findL (small s) 0 0 0 ws
theorem one_findL (t : List UInt8) : ∀ (ws : List (List UInt8)) (i : Nat) (a a2 : Int) (n : Nat), (n = 0 → a = 0) → (n = 1 → a = a2 ∧ 0 < a) → (2 ≤ n → a = -1) → oneL t i a ws = findL t i a2 n ws := by
  intro ws
  induction ws with
  | nil =>
    intro i a a2 n h0 h1 h2
    unfold oneL findL
    by_cases h : n = 1
    · obtain ⟨rfl, h⟩ := h1 h
      rw [if_pos ‹n = 1›]; omega
    · rw [if_neg h]
      by_cases hn : n = 0
      · rw [h0 hn]; rfl
      · rw [h2 (by omega)]; rfl
  | cons w r ih =>
    intro i a a2 n h0 h1 h2
    unfold oneL findL
    by_cases hw : w = t
    · subst hw
      rw [if_pos rfl, if_pos (List.prefix_refl _), if_pos rfl]
    · rw [if_neg hw]
      by_cases hp : t <+: w
      · rw [if_pos hp, if_pos hp, if_neg hw]
        refine ih _ _ _ _ (fun h => by omega) (fun h => ?_) (fun h => ?_)
        · have : n = 0 := by omega
          rw [if_neg (by rw [h0 this]; simp)]
          exact ⟨rfl, by omega⟩
        · by_cases hn : n = 1
          · obtain ⟨_, h3⟩ := h1 hn
            rw [if_pos (by omega)]
          · rw [if_pos (by rw [h2 (by omega)]; decide)]
      · rw [if_neg hp, if_neg hp]
        exact ih _ _ _ _ h0 h1 h2
theorem one_find (s : List UInt8) (ws : List (List UInt8)) : oneW s ws = findW s ws := by
  unfold oneW findW
  split
  · rfl
  · exact one_findL _ _ _ _ _ _ (fun _ => rfl) (fun h => by omega) (fun h => by omega)
theorem oneL_le (t : List UInt8) : ∀ (ws : List (List UInt8)) (i : Nat) (a : Int), -1 ≤ a → a ≤ i → 0 ≤ oneL t i a ws ∧ oneL t i a ws ≤ i + ws.length := by
  intro ws
  induction ws with
  | nil => intro i a h1 h2; unfold oneL; simp only [List.length_nil]; omega
  | cons w r ih =>
    intro i a h1 h2
    unfold oneL
    simp only [List.length_cons]
    split
    · omega
    · split
      · have := ih (i + 1) (if a ≠ 0 then -1 else (i : Int) + 1) (by split <;> omega) (by split <;> omega)
        omega
      · have := ih (i + 1) a h1 (by omega)
        omega
/-- The months' names. -/
def monthW : List (List UInt8) := [[106, 97, 110, 117, 97, 114, 121], [102, 101, 98, 114, 117, 97, 114, 121], [109, 97, 114, 99, 104], [97, 112, 114, 105, 108], [109, 97, 121], [106, 117, 110, 101], [106, 117, 108, 121], [97, 117, 103, 117, 115, 116], [115, 101, 112, 116, 101, 109, 98, 101, 114], [111, 99, 116, 111, 98, 101, 114], [110, 111, 118, 101, 109, 98, 101, 114], [100, 101, 99, 101, 109, 98, 101, 114]]
def headW : List (List UInt8) := [[114, 117, 108, 101], [122, 111, 110, 101], [108, 105, 110, 107]]
def toW : List (List UInt8) := [[111, 110, 108, 121], [109, 97, 120, 105, 109, 117, 109], [109, 105, 110, 105, 109, 117, 109]]
/-- A month's short name. -/
def shortW (m : Int) : List UInt8 := if 1 ≤ m ∧ m ≤ 12 then (match monthW[(m - 1).toNat]? with | some (c :: t) => UInt8.ofNat (c.toNat - 32) :: t.take 2 | _ => []) else []
end Go.Proofs.YtibklmjoepckdaaDoor.D
