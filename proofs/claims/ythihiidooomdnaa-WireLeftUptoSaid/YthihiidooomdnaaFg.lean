import Derived.Test.YthihiidooomdnaaFf
import Derived.Test.YthihiidooomdnaaWl
import Derived.Test.YthihiidooomdnaaFz
namespace Go.Proofs.Ythihiidooomdnaa.D
open Go.RowKit
set_option linter.unusedVariables false
set_option linter.unusedSimpArgs false
theorem NoW1 : NoW gv1 := ⟨rfl, rfl, rfl, rfl, rfl, rfl, rfl, rfl, rfl, rfl, rfl⟩
theorem left_run {m : Mem} (hm : m.lo ≤ m.next) (b : Value) (xs : List Int) (hx : ∀ c ∈ xs, 0 ≤ c ∧ c ≤ 255) (hxl : xs.length ≤ 2000000) (hb : By m b xs) :
    ∃ m', L (CC gv1) (.call 5) [b] m [] = some ⟨.ret, [.bool true], m', []⟩ := by
  have hrd : ∀ {m : Mem} {b : Value} {xs : List Int}, By m b xs → Rd m b xs := by
    intro m b xs h
    rcases h with ⟨rfl, rfl⟩ | ⟨o, off, c, r, h0, h⟩
    · exact .inl ⟨rfl, .inl rfl⟩
    · exact .inr ⟨o, fun h => h, off, c, r, h0, h⟩
  obtain ⟨l1, l2, l3, l4⟩ := Sp.left xs
  obtain ⟨v, vs, w, m1, a1, a2, a3, a4, a5⟩ := split_run gv1 NoW1 hm b xs hx (by omega) (hrd hb)
  have hb1 := hb.mono a2
  have hsub : IntKind.wrap .i64 ((xs.length : Int) - ((Sp.new.run xs).held.length : Int)) = ((xs.length - (Sp.new.run xs).held.length : Nat) : Int) := by
    rw [wrap_i64 (by omega) (by omega)]; omega
  obtain ⟨vc, c1, c2⟩ := hb1.cut (a := xs.length - (Sp.new.run xs).held.length) (b := xs.length) (by omega) (Nat.le_refl _) (some (.int .i64 ((xs.length - (Sp.new.run xs).held.length : Nat) : Int))) none (aLo_int (by omega)) rfl
  rw [List.take_length, l2] at c2
  have s1 := same_yes gv1 rfl a5 (hrd c2) (by omega)
  have hm1 : m1.lo ≤ m1.next := by have := a2.next; rw [a2.lo]; omega
  have hheld : ∀ c ∈ (Sp.new.run xs).held, 0 ≤ c ∧ c ≤ 255 := by
    intro c hc
    rw [← l2] at hc
    exact hx c (List.mem_of_mem_drop hc)
  obtain ⟨v', vs', w', m2, b1, b2, b3, b4, b5⟩ := split_run gv1 NoW1 hm1 w _ hheld (by omega) a5
  rw [l3] at b4
  rw [l4] at b5
  have hvs : vs' = [] := List.eq_nil_of_length_eq_zero b4.length
  subst hvs
  have hlen' := b3.len
  have s2 := same_yes gv1 rfl b5 (a5.ge b2) (by omega)
  have f1 : ∀ (m : Mem) (b : Value), L (CC gv1) (.call 13) [.pointer none, b] m [] = some ⟨.ret, [.slice none 0 0], m, []⟩ := fun m b =>
    R13 gv1 rfl (by simp [x13])
  have f2 : ∀ (m : Mem), L (CC gv1) (.call 14) [.pointer none] m [] = some ⟨.ret, [.slice none 0 0], m, []⟩ := fun m =>
    R14 gv1 rfl (by simp [x14])
  have hn : aLenL (.slice none 0 0) = some (.int .i64 0) := rfl
  have hgt : ¬ ((xs.length : Int) < ((Sp.new.run xs).held.length : Int)) := by omega
  refine ⟨m2, R5 gv1 rfl ?_⟩
  simp [x5, a1, a5.len, hb.len, hgt, hsub, c1, s1, b1, hlen', s2, f1, f2, hn, alive_given]
end Go.Proofs.Ythihiidooomdnaa.D
