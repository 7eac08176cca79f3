/-
  The splitter of package wire: what is left is the end of the stream, and with it alone the same is left.
-/
import Derived.Test.YthihiidooomdnaaWp
namespace Go.Proofs.Ythihiidooomdnaa.D
set_option linter.unusedVariables false
set_option linter.unusedSimpArgs false
theorem Sp.step_cases (s : Sp) (c : Int) (h3 : s.st = 0 ∨ s.st = 1 ∨ s.st = 2) : (∃ o, s.step c = ⟨0, [], 0, 0, o⟩) ∨ (∃ o, s.step c = ⟨2, [], 0, 0, o⟩) ∨ (s.st = 2 ∧ s.step c = s) ∨
    (s.st ≠ 2 ∧ (s.step c).st ≠ 2 ∧ (s.step c).held = s.held ++ [c] ∧ (s.step c).out = s.out ∧ ∀ o, ({ s with out := o } : Sp).step c = { s.step c with out := o }) := by
  have hbad : (∃ o, s.bad c = ⟨0, [], 0, 0, o⟩) ∨ (∃ o, s.bad c = ⟨2, [], 0, 0, o⟩) := by
    unfold Sp.bad
    split
    · exact .inl ⟨_, rfl⟩
    · exact .inr ⟨_, rfl⟩
  by_cases e1 : s.st = 1
  · have es : s.step c = s.byte c := by simp [Sp.step, e1]
    rw [es]
    by_cases hw : 0 < s.want
    · have eb : s.byte c = { s with want := s.want - 1, held := s.held ++ [c] } := by simp [Sp.byte, hw]
      refine .inr (.inr (.inr ⟨by omega, by rw [eb]; simp only; omega, by rw [eb], by rw [eb], fun o => ?_⟩))
      rw [eb]
      simp [Sp.step, e1, Sp.byte, hw]
    · by_cases hc : c = 10
      · exact .inl ⟨_, by simp [Sp.byte, hw, hc, Sp.begin]; rfl⟩
      · have eb : s.byte c = s.bad c := by simp [Sp.byte, hw, hc]
        rw [eb]
        rcases hbad with h | h
        · exact .inl h
        · exact .inr (.inl h)
  · by_cases e2 : s.st = 2
    · have es : s.step c = s.pass c := by simp [Sp.step, e2]
      rw [es]
      by_cases hc : c = 10
      · exact .inl ⟨s.out, by simp [Sp.pass, hc, Sp.begin]⟩
      · exact .inr (.inr (.inl ⟨e2, by simp [Sp.pass, hc]⟩))
    · have e0 : s.st = 0 := by omega
      have es : s.step c = s.digit c := by simp [Sp.step, e0]
      rw [es]
      by_cases hd : 48 ≤ c ∧ c ≤ 57
      · by_cases hb : s.held.length = 5 ∨ (0 < s.held.length ∧ s.n = 0)
        · have eb : s.digit c = s.bad c := by unfold Sp.digit; rw [if_pos hd, if_pos hb]
          rw [eb]
          rcases hbad with h | h
          · exact .inl h
          · exact .inr (.inl h)
        · have eb : s.digit c = { s with n := s.n * 10 + (c - 48), held := s.held ++ [c] } := by unfold Sp.digit; rw [if_pos hd, if_neg hb]
          refine .inr (.inr (.inr ⟨e2, by rw [eb]; exact e2, by rw [eb], by rw [eb], fun o => ?_⟩))
          rw [eb]
          unfold Sp.step
          rw [if_neg (by simp only; exact e1), if_neg (by simp only; exact e2)]
          unfold Sp.digit
          rw [if_pos hd, if_neg hb]
      · by_cases hb : c ≠ 58 ∨ s.held.length = 0 ∨ 20000 < s.n
        · have eb : s.digit c = s.bad c := by unfold Sp.digit; rw [if_neg hd, if_pos hb]
          rw [eb]
          rcases hbad with h | h
          · exact .inl h
          · exact .inr (.inl h)
        · have eb : s.digit c = { s with st := 1, want := s.n, held := s.held ++ [c] } := by unfold Sp.digit; rw [if_neg hd, if_neg hb]
          refine .inr (.inr (.inr ⟨e2, by rw [eb]; simp, by rw [eb], by rw [eb], fun o => ?_⟩))
          rw [eb]
          unfold Sp.step
          rw [if_neg (by simp only; exact e1), if_neg (by simp only; exact e2)]
          unfold Sp.digit
          rw [if_neg hd, if_neg hb]
theorem Sp.step_st (s : Sp) (c : Int) (h : s.Ok) : (s.step c).st = 0 ∨ (s.step c).st = 1 ∨ (s.step c).st = 2 := (h.step c).st
/-- What is held, alone, comes to the same. -/
theorem Sp.again (xs : List Int) : ∀ s : Sp, s.Ok → (s.st = 2 → s.held = []) → (s.st ≠ 2 → Sp.new.run s.held = { s with out := [] }) →
    ((s.run xs).st = 2 → (s.run xs).held = []) ∧ ((s.run xs).st ≠ 2 → Sp.new.run (s.run xs).held = { s.run xs with out := [] }) ∧ (s.run xs).held <:+ s.held ++ xs := by
  induction xs with
  | nil => intro s hok h2 h; exact ⟨h2, h, by simp [Sp.run]⟩
  | cons c t ih =>
    intro s hok h2 h
    have hr : s.run (c :: t) = (s.step c).run t := rfl
    rw [hr]
    have key : ((s.step c).st = 2 → (s.step c).held = []) ∧ ((s.step c).st ≠ 2 → Sp.new.run (s.step c).held = { s.step c with out := [] }) ∧ (s.step c).held <:+ s.held ++ [c] := by
      rcases s.step_cases c hok.st with ⟨o, e⟩ | ⟨o, e⟩ | ⟨e2, e⟩ | ⟨e1, e2, e3, e4, e5⟩
      · rw [e]; exact ⟨fun _ => rfl, fun _ => rfl, List.nil_suffix⟩
      · rw [e]; exact ⟨fun _ => rfl, fun h => absurd rfl h, List.nil_suffix⟩
      · rw [e, h2 e2]
        exact ⟨fun _ => rfl, fun h => absurd e2 h, List.nil_suffix⟩
      · refine ⟨fun h => absurd h e2, fun _ => ?_, by rw [e3]; exact List.suffix_refl _⟩
        rw [e3, Sp.run_snoc, h e1, e5]
    obtain ⟨k1, k2, k3⟩ := key
    obtain ⟨a, b, d⟩ := ih (s.step c) (hok.step c) k1 k2
    refine ⟨a, b, d.trans ?_⟩
    have e : s.held ++ c :: t = (s.held ++ [c]) ++ t := by simp
    rw [e]
    obtain ⟨u, hu⟩ := k3
    exact ⟨u, by rw [← List.append_assoc, hu]⟩
theorem Sp.left (xs : List Int) : (Sp.new.run xs).held.length ≤ xs.length ∧ xs.drop (xs.length - (Sp.new.run xs).held.length) = (Sp.new.run xs).held ∧ (Sp.new.run (Sp.new.run xs).held).out = [] ∧ (Sp.new.run (Sp.new.run xs).held).held = (Sp.new.run xs).held := by
  obtain ⟨a, b, d⟩ := Sp.again xs Sp.new Sp.Ok.new (fun _ => rfl) (fun _ => rfl)
  have d' : (Sp.new.run xs).held <:+ xs := by simpa [Sp.new] using d
  refine ⟨d'.length_le, ?_, ?_⟩
  · obtain ⟨u, hu⟩ := d'
    have : xs.length - (Sp.new.run xs).held.length = u.length := by
      have := congrArg List.length hu
      simp at this
      omega
    rw [this]
    have e : List.drop u.length xs = List.drop u.length (u ++ (Sp.new.run xs).held) := by rw [hu]
    rw [e, List.drop_left]
  · by_cases h : (Sp.new.run xs).st = 2
    · rw [a h]; exact ⟨rfl, rfl⟩
    · rw [b h]; exact ⟨rfl, rfl⟩
end Go.Proofs.Ythihiidooomdnaa.D
