import Derived.Test.YthihiidooomdnaaFi
namespace Go.Proofs.Ythihiidooomdnaa.D
open Go.RowKit
set_option linter.unusedVariables false
set_option linter.unusedSimpArgs false
theorem Sp.step_items (s : Sp) (c : Int) : ∀ it ∈ (s.step c).out, it ∈ s.out ∨ it.b.length ≤ s.held.length := by
  have hbad : ∀ it ∈ (s.bad c).out, it ∈ s.out ∨ it.b.length ≤ s.held.length := by
    intro it h
    have : it ∈ s.out ++ [⟨true, []⟩] := by
      unfold Sp.bad at h
      split at h <;> exact h
    rcases List.mem_append.1 this with h | h
    · exact .inl h
    · simp at h; subst h; exact .inr (by simp)
  intro it
  unfold Sp.step
  split
  · unfold Sp.byte
    split
    · exact fun h => .inl h
    · split
      · exact hbad it
      · intro h
        rcases List.mem_append.1 (show it ∈ s.out ++ [⟨false, s.held.drop (s.held.length - s.n.toNat)⟩] from h) with h | h
        · exact .inl h
        · simp at h; subst h; exact .inr (by simp)
  · split
    · unfold Sp.pass
      split <;> exact fun h => .inl h
    · unfold Sp.digit
      split
      · split
        · exact hbad it
        · exact fun h => .inl h
      · split
        · exact hbad it
        · exact fun h => .inl h
theorem Sp.run_items (xs : List Int) : ∀ s : Sp, s.Ok → (s.st = 2 → s.held = []) → ∀ it ∈ (s.run xs).out, it ∈ s.out ∨ it.b.length ≤ 20006 := by
  induction xs with
  | nil => intro s _ _ it h; exact .inl h
  | cons c t ih =>
    intro s hok hsk it h
    rcases ih (s.step c) (hok.step c) (Sp.skip_step hsk c) it h with h | h
    · rcases s.step_items c it h with h | h
      · exact .inl h
      · have := hok.held hsk
        exact .inr (by omega)
    · exact .inr h
theorem Sp.new_items (xs : List Int) : ∀ it ∈ (Sp.new.run xs).out, it.b.length ≤ 20006 := by
  intro it h
  rcases Sp.run_items xs Sp.new Sp.Ok.new (fun _ => rfl) it h with h | h
  · cases h
  · exact h
theorem feeds_run {m : Mem} (hm : m.lo ≤ m.next) (a0 a1 : Value) (xs ns : List Int) (hx : ∀ c ∈ xs, 0 ≤ c ∧ c ≤ 255) (hxl : xs.length ≤ 1100000) (hnl2 : ns.length ≤ 1100000) (ha0 : By m a0 xs) (ha1 : Sl m a1 1 (fun n => [.int .i64 n]) ns) :
    ∃ m', L (CC gv1) (.call 4) [a0, a1] m [] = some ⟨.ret, [.bool true], m', []⟩ := by
  obtain ⟨m1, a2, a3, a4⟩ := new_run gv1 NoW1 hm
  by_cases hnl : 100 < ns.length
  · have : (100 : Int) < (ns.length : Int) := by omega
    exact ⟨m1, R4 gv1 rfl (by simp [x4, a2, ha1.len, this, alive_given])⟩
  · have hn0 : ¬ ((100 : Int) < (ns.length : Int)) := by omega
    have hm1 : m1.lo ≤ m1.next := by rw [a4.lo]; have := a4.next; omega
    have hFI : FI m m1 m.next m.next m.next { Sp.new.run (xs.take 0) with out := [] } (.slice none 0 0) m.next [] (Sp.new.run (xs.take 0)).out :=
      ⟨a4.N (Nat.le_refl _), a4.next, hm1, a3, rfl, fun q hq hf => by unfold Fr at hf; omega, Ow.nil, .inl rfl, trivial⟩
    obtain ⟨m2, oh, oo, vl, ol, ws, rest, c, b1, b2, b3, b4⟩ := feeds_loop m a0 a1 xs ns hx hxl ha1 (by omega) m.next ns.length 0 m1 m.next m.next _ m.next [] a0 0 (by omega) (by omega) hFI (by simpa using ha0)
    simp only [Int.natCast_zero] at b1
    have hok : (Sp.new.run (xs.take c)).Ok := Sp.Ok.new.run _
    have hsk := Sp.skip_run (s := Sp.new) (fun _ => rfl) (xs.take c)
    have hro := Sp.run_out Sp.new (xs.take c)
    have htl : (xs.take c).length = c := by simp; omega
    have hdl : (xs.drop c).length = xs.length - c := List.length_drop
    have hno : (Sp.new).out.length = 0 := rfl
    obtain ⟨v1, m3, v2, m4, vl2, m5, oh2, ol2, vs, c1, c2, c3, c4⟩ := b3.feed b4 (fun x hxx => hx x (List.mem_of_mem_drop hxx)) (hok.clear []) hsk (by rw [htl, hno] at hro; omega)
    have hrun : Sp.new.run xs = (Sp.new.run (xs.take c)).run (xs.drop c) := by rw [← Sp.run_append, List.take_append_drop]
    have hcl := Sp.run_clear (Sp.new.run (xs.take c)) (xs.drop c)
    have c5 : FI m m5 m.next oh2 m.next { Sp.new.run xs with out := [] } vl2 ol2 (ws ++ vs) (Sp.new.run xs).out := by rw [hrun, hcl]; exact c4
    have hrl := Sp.run_out Sp.new xs
    rw [hno] at hrl
    obtain ⟨w1, us, w2, m6, d1, d2, d3, d4, d5⟩ := split_run gv1 NoW1 c5.hm a0 xs hx (by omega) (ha0.mono c5.hg.ge).rd
    have hm6 : m6.lo ≤ m6.next := by rw [d2.lo]; have := d2.next; have := c5.hm; omega
    have hul := d4.length
    obtain ⟨w3, m7, e1, e2, e3⟩ := back_run gv1 rfl d3 d4.sing (by omega) hm6
    have hsl : Sl m7 vl2 2 iE (ws ++ vs) := (Ow.toSl (enc := iE) (fun _ => rfl) rfl c5.ow).mono (d2.trans e2)
    have it := items_run gv1 rfl rfl hsl e3 (c5.its.rd.ge (d2.trans e2)) (d4.ge e2) (by omega) (fun i hi => by have := Sp.new_items xs i hi; omega)
    have hh := Sp.new_held xs
    obtain ⟨w4, m8, f1, f2, f3⟩ := rest_run gv1 NoW1 (c5.sp.ge (d2.trans e2)).1 (by simp only; omega)
    have sm := same_yes gv1 rfl f3.rd ((d5.ge e2).ge f2) (by simp only; omega)
    refine ⟨m8, R4 gv1 rfl ?_⟩
    simp [x4, a2, ha1.len, hn0, b1, c1, c2, c3, d1, e1, it, f1, sm, alive_given]
end Go.Proofs.Ythihiidooomdnaa.D
