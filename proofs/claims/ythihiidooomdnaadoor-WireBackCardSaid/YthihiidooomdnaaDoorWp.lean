/-
  The splitter of package wire, over bytes.
-/
import GoSem.Claim
namespace Go.Proofs.YthihiidooomdnaaDoor.D
set_option linter.unusedVariables false
set_option linter.unusedSimpArgs false

structure It where
  bad : Bool
  b : List Int
structure Sp where
  st : Int
  held : List Int
  n : Int
  want : Int
  out : List It
def Sp.begin (s : Sp) : Sp := { s with st := 0, held := [], n := 0, want := 0 }
def Sp.bad (s : Sp) (c : Int) : Sp := if c = 10 then Sp.begin { s with out := s.out ++ [⟨true, []⟩] } else { Sp.begin { s with out := s.out ++ [⟨true, []⟩] } with st := 2 }
def Sp.digit (s : Sp) (c : Int) : Sp :=
  if 48 ≤ c ∧ c ≤ 57 then
    (if s.held.length = 5 ∨ (0 < s.held.length ∧ s.n = 0) then s.bad c else { s with n := s.n * 10 + (c - 48), held := s.held ++ [c] })
  else if c ≠ 58 ∨ s.held.length = 0 ∨ 20000 < s.n then s.bad c
  else { s with st := 1, want := s.n, held := s.held ++ [c] }
def Sp.byte (s : Sp) (c : Int) : Sp :=
  if 0 < s.want then { s with want := s.want - 1, held := s.held ++ [c] }
  else if c ≠ 10 then s.bad c
  else Sp.begin { s with out := s.out ++ [⟨false, s.held.drop (s.held.length - s.n.toNat)⟩] }
def Sp.pass (s : Sp) (c : Int) : Sp := if c = 10 then s.begin else s
def Sp.step (s : Sp) (c : Int) : Sp := if s.st = 1 then s.byte c else if s.st = 2 then s.pass c else s.digit c

def Sp.run (s : Sp) (xs : List Int) : Sp := xs.foldl Sp.step s
def Sp.new : Sp := ⟨0, [], 0, 0, []⟩

/-- What a splitter is bound to. -/
structure Sp.Ok (s : Sp) : Prop where
  st : s.st = 0 ∨ s.st = 1 ∨ s.st = 2
  d : s.st = 0 → 0 ≤ s.n ∧ s.held.length ≤ 5 ∧ s.n < 10 ^ s.held.length
  b : s.st = 1 → 0 ≤ s.n ∧ 0 ≤ s.want ∧ s.n ≤ s.held.length + s.want ∧ s.held.length + s.want ≤ 20006

theorem Sp.Ok.begin (s : Sp) : s.begin.Ok := ⟨.inl rfl, fun _ => ⟨Int.le_refl _, Nat.zero_le _, show (0 : Int) < 10 ^ 0 from by decide⟩, fun h => absurd h (by decide : ¬ ((0 : Int) = 1))⟩
theorem Sp.Ok.bad (s : Sp) (c : Int) : (s.bad c).Ok := by
  unfold Sp.bad
  split
  · exact Sp.Ok.begin _
  · exact ⟨.inr (.inr rfl), fun h => absurd h (by decide : ¬ ((2 : Int) = 0)), fun h => absurd h (by decide : ¬ ((2 : Int) = 1))⟩
theorem Sp.Ok.new : Sp.new.Ok := Sp.Ok.begin ⟨0, [], 0, 0, []⟩
theorem Sp.bad_out (s : Sp) (c : Int) : (s.bad c).out.length = s.out.length + 1 := by
  unfold Sp.bad
  split <;> simp [Sp.begin]
theorem Sp.Ok.n_le {s : Sp} (h : s.Ok) (hs : s.st = 0) : s.n ≤ 99999 := by
  obtain ⟨h0, h1, h2⟩ := h.d hs
  have : (10 : Int) ^ s.held.length ≤ 10 ^ 5 := by
    have := Nat.pow_le_pow_right (n := 10) (by decide) h1
    exact_mod_cast this
  have e : (10 : Int) ^ 5 = 100000 := by decide
  omega

theorem Sp.Ok.step {s : Sp} (h : s.Ok) (c : Int) : (s.step c).Ok := by
  unfold Sp.step
  split
  · rename_i hs
    obtain ⟨b0, b1, b2, b3⟩ := h.b hs
    unfold Sp.byte
    split
    · refine ⟨.inr (.inl hs), fun e => absurd (hs.symm.trans e) (by decide), fun _ => ⟨b0, ?_, ?_, ?_⟩⟩
      · show 0 ≤ s.want - 1
        omega
      · show s.n ≤ ((s.held ++ [c]).length : Int) + (s.want - 1)
        rw [List.length_append]
        simp only [List.length_singleton]
        omega
      · show ((s.held ++ [c]).length : Int) + (s.want - 1) ≤ 20006
        rw [List.length_append]
        simp only [List.length_singleton]
        omega
    · split
      · exact Sp.Ok.bad _ _
      · exact Sp.Ok.begin _
  · split
    · unfold Sp.pass
      split
      · exact Sp.Ok.begin _
      · exact h
    · have hs : s.st = 0 := by rcases h.st with e | e | e <;> first | exact e | contradiction
      obtain ⟨d0, d1, d2⟩ := h.d hs
      unfold Sp.digit
      split
      · split
        · exact Sp.Ok.bad _ _
        · rename_i h1 h2
          refine ⟨.inl hs, fun _ => ⟨?_, ?_, ?_⟩, fun e => absurd (hs.symm.trans e) (by decide)⟩
          · show 0 ≤ s.n * 10 + (c - 48)
            omega
          · show (s.held ++ [c]).length ≤ 5
            rw [List.length_append]
            simp only [List.length_singleton]
            omega
          · show s.n * 10 + (c - 48) < 10 ^ (s.held ++ [c]).length
            rw [List.length_append, List.length_singleton, Int.pow_succ]
            omega
      · split
        · exact Sp.Ok.bad _ _
        · rename_i h1 h2
          refine ⟨.inr (.inl rfl), fun e => absurd e (by decide : ¬ ((1 : Int) = 0)), fun _ => ⟨d0, d0, ?_, ?_⟩⟩
          · show s.n ≤ ((s.held ++ [c]).length : Int) + s.n
            omega
          · show ((s.held ++ [c]).length : Int) + s.n ≤ 20006
            rw [List.length_append]
            simp only [List.length_singleton]
            omega
theorem Sp.step_out (s : Sp) (c : Int) : (s.step c).out.length ≤ s.out.length + 1 := by
  unfold Sp.step
  split
  · unfold Sp.byte
    split
    · exact Nat.le_succ _
    · split
      · rw [Sp.bad_out]; omega
      · simp [Sp.begin]
  · split
    · unfold Sp.pass
      split
      · exact Nat.le_succ _
      · exact Nat.le_succ _
    · unfold Sp.digit
      split
      · split
        · rw [Sp.bad_out]; omega
        · exact Nat.le_succ _
      · split
        · rw [Sp.bad_out]; omega
        · exact Nat.le_succ _
theorem Sp.run_snoc (s : Sp) (xs : List Int) (c : Int) : s.run (xs ++ [c]) = (s.run xs).step c := by simp [Sp.run]
theorem Sp.run_append (s : Sp) (xs ys : List Int) : s.run (xs ++ ys) = (s.run xs).run ys := by simp [Sp.run]
theorem Sp.Ok.run {s : Sp} (h : s.Ok) (xs : List Int) : (s.run xs).Ok := by
  induction xs generalizing s with
  | nil => exact h
  | cons c t ih => exact ih (h.step c)
theorem Sp.run_out (s : Sp) (xs : List Int) : (s.run xs).out.length ≤ s.out.length + xs.length := by
  induction xs generalizing s with
  | nil => exact Nat.le_refl _
  | cons c t ih =>
    have h := ih (s.step c)
    have h1 := Sp.step_out s c
    show ((s.step c).run t).out.length ≤ _
    simp only [List.length_cons]
    omega
theorem Sp.Ok.held {s : Sp} (h : s.Ok) (h2 : s.st = 2 → s.held = []) : s.held.length ≤ 20006 := by
  rcases h.st with e | e | e
  · have := (h.d e).2.1; omega
  · have := (h.b e).2.2.2; have := (h.b e).2.1; omega
  · rw [h2 e]; exact Nat.zero_le _
theorem Sp.skip_bad (s : Sp) (c : Int) : (s.bad c).held = [] := by
  unfold Sp.bad
  split <;> rfl
theorem Sp.skip_step {s : Sp} (h : s.st = 2 → s.held = []) (c : Int) : (s.step c).st = 2 → (s.step c).held = [] := by
  unfold Sp.step
  split
  · rename_i hs
    unfold Sp.byte
    split
    · intro e; exact absurd (hs.symm.trans e) (by decide)
    · split
      · intro _; exact Sp.skip_bad _ _
      · intro _; rfl
  · split
    · unfold Sp.pass
      split
      · intro _; rfl
      · exact h
    · rename_i h1 h2
      unfold Sp.digit
      split
      · split
        · intro _; exact Sp.skip_bad _ _
        · intro e; exact absurd e h2
      · split
        · intro _; exact Sp.skip_bad _ _
        · intro e; exact absurd e (by decide : ¬ ((1 : Int) = 2))
theorem Sp.skip_run {s : Sp} (h : s.st = 2 → s.held = []) (xs : List Int) : (s.run xs).st = 2 → (s.run xs).held = [] := by
  induction xs generalizing s with
  | nil => exact h
  | cons c t ih => exact ih (Sp.skip_step h c)
theorem Sp.new_held (xs : List Int) : (Sp.new.run xs).held.length ≤ 20006 := (Sp.Ok.new.run xs).held (Sp.skip_run (fun _ => rfl) xs)

end Go.Proofs.YthihiidooomdnaaDoor.D
