import Derived.Test.YthihiidooomdnaaFc
namespace Go.Proofs.Ythihiidooomdnaa.D
open Go.RowKit
set_option linter.unusedVariables false
set_option linter.unusedSimpArgs false
variable (gv : FuncId → Option (List Value → Mem → Option (Value × Mem)))
theorem pass_run (hg : gv 22 = none) (hg2 : gv 19 = none) {m : Mem} {s oh oo : Nat} {p : Sp} (h : SpAt m s p oh oo) (c : Int) :
    ∃ m' oh' oo', L (CC gv) (.call 19) [.pointer (some ⟨s, 0, none⟩), .int .u8 c] m [] = some ⟨.ret, [undef], m', []⟩ ∧ SpAt m' s (p.pass c) oh' oo' ∧ Step m m' (Fr s oh oo) (Fr s oh' oo') := by
  obtain ⟨vh, vo, vs, h1, h2, h3, h4⟩ := h.ex
  by_cases hc : c = 10
  · have hb := begin_run gv hg h1 h.slo
    obtain ⟨q1, q2⟩ := h.begun h1
    refine ⟨_, _, _, R19 gv hg2 ?_, by simpa [Sp.pass, hc] using q1, q2⟩
    simp [x19, hc, hb, undef]
  · refine ⟨m, oh, oo, R19 gv hg2 ?_, by simpa [Sp.pass, hc] using h, .refl _ _⟩
    simp [x19, hc, undef]
structure NoW : Prop where
  g1 : gv 22 = none
  g2 : gv 21 = none
  g3 : gv 18 = none
  g4 : gv 17 = none
  g5 : gv 20 = none
  g6 : gv 19 = none
  g7 : gv 16 = none
  g8 : gv 13 = none
  g9 : gv 14 = none
  g10 : gv 12 = none
  g11 : gv 6 = none
theorem take_run (G : NoW gv) {m : Mem} {s oh oo : Nat} {p : Sp} (h : SpAt m s p oh oo) :
    L (CC gv) (.call 16) [.pointer (some ⟨s, 0, none⟩)] m [] = some ⟨.ret, [.func (.func (if p.st = 1 then 18 else if p.st = 2 then 19 else 20)) #[.pointer (some ⟨s, 0, none⟩)] #[]], m, []⟩ := by
  obtain ⟨vh, vo, vs, h1, h2, h3, h4⟩ := h.ex
  refine R16 gv G.g7 ?_
  by_cases e1 : p.st = 1
  · simp [x16, h1, e1]
  · by_cases e2 : p.st = 2
    · simp [x16, h1, e2]
    · simp [x16, h1, e1, e2]
theorem step_run (G : NoW gv) {m : Mem} {s oh oo : Nat} {p : Sp} (h : SpAt m s p oh oo) (hok : p.Ok) (hsk : p.st = 2 → p.held = []) (c : Int) (c0 : 0 ≤ c) (c1 : c ≤ 255) (hl : p.out.length ≤ 4000000) :
    ∃ m' oh' oo', L (CC gv) (.call (if p.st = 1 then 18 else if p.st = 2 then 19 else 20)) [.pointer (some ⟨s, 0, none⟩), .int .u8 c] m [] = some ⟨.ret, [undef], m', []⟩ ∧ SpAt m' s (p.step c) oh' oo' ∧ Step m m' (Fr s oh oo) (Fr s oh' oo') := by
  have hh := hok.held hsk
  by_cases e1 : p.st = 1
  · obtain ⟨b0, b1, b2, b3⟩ := hok.b e1
    have := byte_run gv G.g1 G.g2 G.g3 G.g4 h c hl (by omega) b1 (by omega) b0 (by omega)
    simpa [Sp.step, e1] using this
  · by_cases e2 : p.st = 2
    · have := pass_run gv G.g1 G.g6 h c
      simpa [Sp.step, e1, e2] using this
    · have e0 : p.st = 0 := by rcases hok.st with e | e | e <;> first | exact e | contradiction
      obtain ⟨d0, d1, d2⟩ := hok.d e0
      have := digit_run gv G.g1 G.g2 G.g5 h c c0 c1 hl (by omega) d0 (hok.n_le e0)
      simpa [Sp.step, e1, e2] using this
theorem Co.len {m : Mem} {F : Nat → Prop} {v : Value} {l : List Int} (h : Co m F v l) : aLenL v = some (.int .i64 l.length) := by
  rcases h with ⟨rfl, rfl | ⟨o, off, c, rfl⟩⟩ | ⟨o, _, off, c, r, rfl, _⟩ <;> rfl
theorem Co.byte {m : Mem} {F : Nat → Prop} {v : Value} {l : List Int} (h : Co m F v l) {i : Nat} {x : Int} (hx : l[i]? = some x) (k : IntKind) : ∃ o off, aIdx 1 v (.int k i) = some (.pointer (some ⟨o, off, none⟩)) ∧ ((m.get o).bind fun r => r.cells[off]?) = some (.int .u8 x) := by
  rcases h with ⟨rfl, _⟩ | ⟨o, _, off, c, r, rfl, h⟩
  · simp at hx
  · exact Sl.byte (.inr ⟨o, off, c, r, rfl, h⟩) hx k
theorem feed_loop (G : NoW gv) (s : Nat) (b : Value) (xs : List Int) (hx : ∀ c ∈ xs, 0 ≤ c ∧ c ≤ 255) (hxl : xs.length ≤ 4000000) : ∀ (k i : Nat) (m : Mem) (p : Sp) (oh oo : Nat), i + k = xs.length → SpAt m s p oh oo → p.Ok → (p.st = 2 → p.held = []) → Co m (Fr s oh oo) b xs → p.out.length + k ≤ 4000000 →
    ∃ m' oh' oo', L (CC gv) (.loop 1300) [.pointer (some ⟨s, 0, none⟩), b, .int .i64 xs.length, .int .i64 i] m [] = some ⟨.exit 0, [.pointer (some ⟨s, 0, none⟩), b, .int .i64 xs.length, .int .i64 xs.length], m', []⟩ ∧ SpAt m' s (p.run (xs.drop i)) oh' oo' ∧ Step m m' (Fr s oh oo) (Fr s oh' oo') := by
  intro k
  induction k with
  | zero =>
    intro i m p oh oo hi h hok hsk hco hl
    obtain rfl : i = xs.length := by omega
    refine ⟨m, oh, oo, Q1300 gv ?_, by simpa [Sp.run] using h, .refl _ _⟩
    simp [y1300]
  | succ k ih =>
    intro i m p oh oo hi h hok hsk hco hl
    have hxi : i < xs.length := by omega
    obtain ⟨o, off, a1, a2⟩ := hco.byte (List.getElem?_eq_getElem hxi) .i64
    obtain ⟨c0, c1⟩ := hx xs[i] (List.getElem_mem hxi)
    have ht := take_run gv G h
    obtain ⟨m1, oh1, oo1, b1, b2, b3⟩ := step_run gv G h hok hsk xs[i] c0 c1 (by omega)
    have hso := Sp.step_out p xs[i]
    obtain ⟨m2, oh2, oo2, d1, d2, d3⟩ := ih (i + 1) m1 (p.step xs[i]) oh1 oo1 (by omega) b2 (hok.step _) (Sp.skip_step hsk _) (hco.mono b3) (by omega)
    have hw : IntKind.wrap .i64 ((i : Int) + 1) = (i : Int) + 1 := wrap_i64 (by omega) (by omega)
    rw [Int.natCast_add] at d1
    refine ⟨m2, oh2, oo2, Q1300 gv ?_, ?_, b3.trans d3⟩
    · have d1' := d1
      simp only [Int.natCast_one] at d1'
      simp [y1300, hxi, a1, a2, ht, b1, hw, d1']
    · rw [List.drop_eq_getElem_cons hxi]
      exact d2
end Go.Proofs.Ythihiidooomdnaa.D
