import Derived.Test.YthihiidooomdnaaFf
import Derived.Test.YthihiidooomdnaaFz
namespace Go.Proofs.Ythihiidooomdnaa.D
open Go.RowKit
set_option linter.unusedVariables false
set_option linter.unusedSimpArgs false
/-! ### What is told comes behind what was told -/
theorem Sp.step_pre (s : Sp) (c : Int) (a : List It) : ({ s with out := a ++ s.out } : Sp).step c = { s.step c with out := a ++ (s.step c).out } := by
  unfold Sp.step
  simp only
  split
  · unfold Sp.byte
    simp only
    split
    · rfl
    · split
      · unfold Sp.bad
        split <;> simp [Sp.begin]
      · simp [Sp.begin]
  · split
    · unfold Sp.pass
      split <;> simp [Sp.begin]
    · unfold Sp.digit
      simp only
      split
      · split
        · unfold Sp.bad
          split <;> simp [Sp.begin]
        · rfl
      · split
        · unfold Sp.bad
          split <;> simp [Sp.begin]
        · rfl
theorem Sp.run_pre (xs : List Int) : ∀ (s : Sp) (a : List It), ({ s with out := a ++ s.out } : Sp).run xs = { s.run xs with out := a ++ (s.run xs).out } := by
  induction xs with
  | nil => intro s a; rfl
  | cons c t ih =>
    intro s a
    show (({ s with out := a ++ s.out } : Sp).step c).run t = _
    rw [Sp.step_pre, ih]; rfl
theorem Sp.run_clear (p : Sp) (xs : List Int) : p.run xs = { ({ p with out := [] } : Sp).run xs with out := p.out ++ (({ p with out := [] } : Sp).run xs).out } := by
  have := Sp.run_pre xs { p with out := [] } p.out
  simpa using this
/-! ### Slices of what was handed over -/
theorem Sl.cut_at {α : Type} {m0 m : Mem} {v : Value} {sz : Nat} {enc : α → List Value} {l : List α} (h : Sl m0 v sz enc l) (k : GeN m0.next m0 m) {a b : Nat} (ha : a ≤ b) (hb : b ≤ l.length) (lo hi : Option Value) (hlo : aLo lo b = some a) (hhi : aHi hi l.length = some b) : ∃ v', aCut sz v lo hi m = some v' ∧ Sl m0 v' sz enc ((l.take b).drop a) := by
  obtain ⟨v', e, h'⟩ := h.cut ha hb lo hi hlo hhi
  refine ⟨v', ?_, h'⟩
  rw [← e]
  rcases h with ⟨rfl, rfl⟩ | ⟨o, off, c, r, rfl, h0, h1, _⟩
  · rfl
  · simp only [aCut, slc?_at', Option.bind_some, k.get o h0]
theorem Sl.toCo {m0 m : Mem} {v : Value} {l : List Int} (h : By m0 v l) (k : GeN m0.next m0 m) (hn : m0.next ≤ m.next) {F : Nat → Prop} (hf : ∀ q, q < m0.next → ¬ F q) : Co m F v l := by
  rcases h with ⟨rfl, rfl⟩ | ⟨o, off, c, r, rfl, h0, h1, h2⟩
  · exact .inl ⟨rfl, .inl rfl⟩
  · exact .inr ⟨o, hf o h0, off, c, r, rfl, by omega, (k.get o h0).trans h1, h2⟩
theorem encI_length (vs : List (Bool × Value)) : (encI vs).length = vs.length * 2 := by
  unfold encI
  induction vs with
  | nil => rfl
  | cons q t ih => simp only [List.flatMap_cons, List.length_append, ih, List.length_cons]; simp [iE]; omega
theorem Sl.isrc {m : Mem} {v : Value} {vs : List (Bool × Value)} (h : Sl m v 2 iE vs) : aSrc false 2 v m = some (vs.length, encI vs) := by
  rcases h with ⟨rfl, rfl⟩ | ⟨o, off, c, r, rfl, h0, h1, h2, h3, h4⟩
  · rfl
  · simp only [aSrc, slc?_at', Option.bind_some, Mem.at_, h1]
    rw [if_pos h3]
    simp only [Option.bind_some, Option.some.injEq, Prod.mk.injEq, true_and]
    have hlen := encI_length vs
    apply List.ext_getElem?
    intro i
    rw [List.getElem?_take, List.getElem?_drop]
    by_cases hi : i < vs.length * 2
    · rw [if_pos hi]
      have hj : i / 2 < vs.length := by omega
      have := h4 (i / 2) vs[i / 2] (List.getElem?_eq_getElem hj) (i % 2) (by omega)
      rw [show off + i = off + i / 2 * 2 + i % 2 by omega, this]
      have h5 := flat_get (enc := iE) (sz := 2) (fun _ => rfl) (List.getElem?_eq_getElem hj) (j := i % 2) (by omega)
      rw [← h5]
      unfold encI
      congr 1; omega
    · rw [if_neg hi, List.getElem?_eq_none (by omega)]
theorem encI_append (a b : List (Bool × Value)) : encI (a ++ b) = encI a ++ encI b := by simp [encI]
/-- More items. -/
theorem Ow.apps {m : Mem} {v : Value} {o : Nat} {ws : List (Bool × Value)} (h : Ow m v 2 o ws.length (encI ws)) (hm : m.lo ≤ m.next) {y : Value} {vs : List (Bool × Value)} (hy : Sl m y 2 iE vs) (hb : ws.length + vs.length ≤ 4000000) :
    ∃ v' m' o', aApp false 2 32 v y m = some (v', m') ∧ Ow m' v' 2 o' (ws ++ vs).length (encI (ws ++ vs)) ∧ m.next ≤ m'.next ∧ m'.lo = m.lo ∧ m'.ro = m.ro ∧ (∀ q, q < m.next → (q = o → v = .slice none 0 0) → m'.get q = m.get q) ∧ ((o' = o ∧ v' = v) ∨ m.next ≤ o') := by
  have hs := hy.isrc
  by_cases e : vs = []
  · subst e
    refine ⟨v, m, o, ?_, by simpa using h, Nat.le_refl _, rfl, rfl, fun _ _ _ => rfl, .inl ⟨rfl, rfl⟩⟩
    have hk : (0 : Nat) = 0 := rfl
    rcases h.2 with ⟨rfl, _⟩ | ⟨rfl, _⟩
    · simp [aApp, hs]
    · simp [aApp, hs]
  · have hk : 0 < vs.length := by
      cases vs with
      | nil => exact absurd rfl e
      | cons a t => simp
    obtain ⟨m', e1, e2, e3, e4, e5, e6⟩ := h.app hm hs (encI_length vs) hk (b := 32) (by omega) (by omega)
    refine ⟨_, m', m.next, e1, ?_, by omega, e4, e5, e6, .inr (Nat.le_refl _)⟩
    rw [encI_append, List.length_append]; exact e2
end Go.Proofs.Ythihiidooomdnaa.D
