import Derived.Test.YthihiidooomdnaaFd
namespace Go.Proofs.Ythihiidooomdnaa.D
open Go.RowKit
set_option linter.unusedVariables false
set_option linter.unusedSimpArgs false
variable (gv : FuncId → Option (List Value → Mem → Option (Value × Mem)))
theorem feed_run (G : NoW gv) {m : Mem} {s oh oo : Nat} {p : Sp} (b : Value) (xs : List Int) (hx : ∀ c ∈ xs, 0 ≤ c ∧ c ≤ 255) (hxl : xs.length ≤ 4000000) (h : SpAt m s p oh oo) (hok : p.Ok) (hsk : p.st = 2 → p.held = []) (hco : Co m (Fr s oh oo) b xs) (hl : p.out.length + xs.length ≤ 4000000) :
    ∃ v vs m' oh', L (CC gv) (.call 13) [.pointer (some ⟨s, 0, none⟩), b] m [] = some ⟨.ret, [v], m', []⟩ ∧ SpAt m' s { p.run xs with out := [] } oh' s ∧ Step m m' (Fr s oh oo) (Fr s oh' s) ∧ Sl m' v 2 iE vs ∧ Its m' (Fr s oh' s) vs (p.run xs).out := by
  obtain ⟨m1, oh1, oo1, a1, a2, a3⟩ := feed_loop gv G s b xs hx hxl xs.length 0 m p oh oo (by omega) h hok hsk hco hl
  rw [List.drop_zero] at a2
  simp only [Int.natCast_zero] at a1
  obtain ⟨vh, vo, vs, h1, h2, h3, h4⟩ := a2.ex
  have hlen : vs.length = (p.run xs).out.length := h4.length
  have hst : Step m1 (m1.set s ⟨0, [.int .i64 (p.run xs).st, vh, .int .i64 (p.run xs).n, .int .i64 (p.run xs).want, .slice none 0 0]⟩) (Fr s oh1 oo1) (Fr s oh1 s) := ⟨rfl, rfl, Nat.le_refl _, fun q hq hf => by
    unfold Fr at hf ⊢
    simp only [not_or] at hf ⊢
    exact ⟨by simp [hf.1], hf.1, hf.2.1, hf.1⟩⟩
  refine ⟨vo, vs, m1.set s ⟨0, [.int .i64 (p.run xs).st, vh, .int .i64 (p.run xs).n, .int .i64 (p.run xs).want, .slice none 0 0]⟩, oh1, R13 gv G.g8 ?_, ⟨⟨vh, .slice none 0 0, [], by simp, h2.keep (fun hv => by simp [h2.lt h1 (by omega) hv]) (Nat.le_refl _) rfl, Ow.nil, trivial⟩, a2.slo, a2.sn, a2.hn, a2.sn⟩, a3.trans hst, ?_, h4.mono hst⟩
  · simp [x13, hco.len, a1, h1, st_one, a2.slo, putL]
  · exact (h3.keep (m' := m1.set s ⟨0, [.int .i64 (p.run xs).st, vh, .int .i64 (p.run xs).n, .int .i64 (p.run xs).want, .slice none 0 0]⟩) (fun hv => by simp [h3.lt h1 (by omega) hv]) (Nat.le_refl _) rfl).toSl (fun _ => rfl) hlen.symm
theorem rest_run (G : NoW gv) {m : Mem} {s oh oo : Nat} {p : Sp} (h : SpAt m s p oh oo) (hl : p.held.length ≤ 4000000) :
    ∃ v m', L (CC gv) (.call 14) [.pointer (some ⟨s, 0, none⟩)] m [] = some ⟨.ret, [v], m', []⟩ ∧ Ge m m' ∧ Co m' (fun q => q < m.next) v p.held := by
  obtain ⟨vh, vo, vs, h1, h2, h3, h4⟩ := h.ex
  obtain ⟨v, m', a, b, c, d⟩ := clone_run gv G.g4 h2.sl (Nat.le_trans h.slo (Nat.le_of_lt h.sn)) hl
  refine ⟨v, m', R14 gv G.g9 ?_, b, c⟩
  simp [x14, h1, a]
theorem new_run (G : NoW gv) {m : Mem} (hm : m.lo ≤ m.next) : ∃ m', L (CC gv) (.call 12) [] m [] = some ⟨.ret, [.pointer (some ⟨m.next, 0, none⟩)], m', []⟩ ∧ SpAt m' m.next Sp.new m.next m.next ∧ Ge m m' := by
  have hab : aBuild [(0, 1), (1, 1), (2, 1), (3, 1), (4, 1)] [.int .i64 0, .slice none 0 0, .int .i64 0, .int .i64 0, .slice none 0 0] [] = some (.agg #[.int .i64 0, .slice none 0 0, .int .i64 0, .int .i64 0, .slice none 0 0]) := rfl
  refine ⟨m.push ⟨0, [.int .i64 0, .slice none 0 0, .int .i64 0, .int .i64 0, .slice none 0 0]⟩, R12 gv G.g10 ?_, ⟨⟨.slice none 0 0, .slice none 0 0, [], by simp [Sp.new], Ow.nil, Ow.nil, trivial⟩, hm, by simp, by simp, by simp⟩, .push m _⟩
  simp [x12, hab]
theorem Co.all {m : Mem} {F : Nat → Prop} {v : Value} {l : List Int} (h : Co m (fun _ => False) v l) (hf : ∀ q, q < m.next → ¬ F q) : Co m F v l := by
  rcases h with h | ⟨o, _, off, c, r, e, h1, h2⟩
  · exact .inl h
  · exact .inr ⟨o, hf o h1, off, c, r, e, h1, h2⟩
/-- Bytes that may be read. -/
abbrev Rd (m : Mem) (v : Value) (l : List Int) : Prop := Co m (fun _ => False) v l
theorem Co.rd {m : Mem} {F : Nat → Prop} {v : Value} {l : List Int} (h : Co m F v l) : Rd m v l := h.weak fun _ hf => hf.elim
theorem Co.ge {m m' : Mem} {F : Nat → Prop} {v : Value} {l : List Int} (h : Co m F v l) (k : Ge m m') : Co m' F v l := by
  rcases h with h | ⟨o, hf, off, c, r, e, h1, h2, h3⟩
  · exact .inl h
  · exact .inr ⟨o, hf, off, c, r, e, Nat.lt_of_lt_of_le h1 k.next, (k.get o h1).trans h2, h3⟩
theorem Its.rd {m : Mem} {F : Nat → Prop} : ∀ {vs : List (Bool × Value)} {l : List It}, Its m F vs l → Its m (fun _ => False) vs l
  | [], [], _ => trivial
  | (_, _) :: _, _ :: _, h => ⟨h.1, h.2.1.rd, Its.rd h.2.2⟩
  | [], _ :: _, h => h.elim
  | _ :: _, [], h => h.elim
theorem Its.ge {m m' : Mem} {F : Nat → Prop} (k : Ge m m') : ∀ {vs : List (Bool × Value)} {l : List It}, Its m F vs l → Its m' F vs l
  | [], [], _ => trivial
  | (_, _) :: _, _ :: _, h => ⟨h.1, h.2.1.ge k, Its.ge k h.2.2⟩
  | [], _ :: _, h => h.elim
  | _ :: _, [], h => h.elim
theorem Step.toGe {m m1 m2 : Mem} {F F' : Nat → Prop} (h : Ge m m1) (k : Step m1 m2 F F') (hf : ∀ q, q < m.next → ¬ F q) : Ge m m2 :=
  ⟨k.lo.trans h.lo, k.ro.trans h.ro, Nat.le_trans h.next k.next, fun q hq => (k.get q (Nat.lt_of_lt_of_le hq h.next) (hf q hq)).1.trans (h.get q hq)⟩
theorem split_run (G : NoW gv) {m : Mem} (hm : m.lo ≤ m.next) (b : Value) (xs : List Int) (hx : ∀ c ∈ xs, 0 ≤ c ∧ c ≤ 255) (hxl : xs.length ≤ 4000000) (hco : Rd m b xs) :
    ∃ v vs w m', L (CC gv) (.call 6) [b] m [] = some ⟨.ret, [.tuple #[v, w]], m', []⟩ ∧ Ge m m' ∧ Sl m' v 2 iE vs ∧ Its m' (fun _ => False) vs (Sp.new.run xs).out ∧ Rd m' w (Sp.new.run xs).held := by
  obtain ⟨m1, a1, a2, a3⟩ := new_run gv G hm
  have hfr : ∀ q, q < m.next → ¬ Fr m.next m.next m.next q := fun q hq hf => by
    unfold Fr at hf; omega
  have hco1 : Co m1 (Fr m.next m.next m.next) b xs := (hco.all hfr).ge a3
  obtain ⟨v, vs, m2, oh, b1, b2, b3, b4, b5⟩ := feed_run gv G b xs hx hxl a2 Sp.Ok.new (fun _ => rfl) hco1 (by simpa [Sp.new] using hxl)
  have hh := Sp.new_held xs
  obtain ⟨w, m3, c1, c2, c3⟩ := rest_run gv G b2 (by simp only; omega)
  refine ⟨v, vs, w, m3, R6 gv G.g11 ?_, (b3.toGe a3 hfr).trans c2, b4.mono c2, b5.rd.ge c2, c3.rd⟩
  simp [x6, a1, b1, c1]
end Go.Proofs.Ythihiidooomdnaa.D
