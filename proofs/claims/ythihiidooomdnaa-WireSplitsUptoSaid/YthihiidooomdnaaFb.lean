import Derived.Test.YthihiidooomdnaaFa
import Derived.Test.YthihiidooomdnaaWp
namespace Go.Proofs.Ythihiidooomdnaa.D
open Go.RowKit
set_option linter.unusedVariables false
set_option linter.unusedSimpArgs false

/-- The rows that belong to a splitter. -/
def Fr (s oh oo q : Nat) : Prop := q = s ∨ q = oh ∨ q = oo
/-- Bytes in a row that is none of these. -/
def Co (m : Mem) (F : Nat → Prop) (v : Value) (b : List Int) : Prop :=
  (b = [] ∧ (v = .slice none 0 0 ∨ ∃ o off c, v = .slice (some ⟨o, off, none⟩) 0 c)) ∨ ∃ o, ¬ F o ∧ ∃ off c r, v = .slice (some ⟨o, off, none⟩) b.length c ∧ o < m.next ∧ m.get o = some r ∧ r.sz = 1 ∧ off + b.length * 1 ≤ r.cells.length ∧ ∀ (i : Nat) x, b[i]? = some x → ∀ j, j < 1 → r.cells[off + i * 1 + j]? = (bE x)[j]?
def Its (m : Mem) (F : Nat → Prop) : List (Bool × Value) → List It → Prop
  | [], [] => True
  | (b, v) :: t, it :: t' => b = it.bad ∧ Co m F v it.b ∧ Its m F t t'
  | _, _ => False
structure Step (m m' : Mem) (F F' : Nat → Prop) : Prop where
  lo : m'.lo = m.lo
  ro : m'.ro = m.ro
  next : m.next ≤ m'.next
  get : ∀ q, q < m.next → ¬ F q → m'.get q = m.get q ∧ ¬ F' q
theorem Step.refl (m : Mem) (F : Nat → Prop) : Step m m F F := ⟨rfl, rfl, Nat.le_refl _, fun _ _ h => ⟨rfl, h⟩⟩
theorem Step.trans {a b c : Mem} {F G H : Nat → Prop} (h : Step a b F G) (k : Step b c G H) : Step a c F H :=
  ⟨k.lo.trans h.lo, k.ro.trans h.ro, Nat.le_trans h.next k.next, fun q hq hf => by
    obtain ⟨e1, e2⟩ := h.get q hq hf
    obtain ⟨e3, e4⟩ := k.get q (Nat.lt_of_lt_of_le hq h.next) e2
    exact ⟨e3.trans e1, e4⟩⟩
theorem Co.mono {m m' : Mem} {F F' : Nat → Prop} {v : Value} {b : List Int} (h : Co m F v b) (k : Step m m' F F') : Co m' F' v b := by
  rcases h with h | ⟨o, hf, off, c, r, rfl, h1, h2, h3⟩
  · exact .inl h
  · obtain ⟨e1, e2⟩ := k.get o h1 hf
    exact .inr ⟨o, e2, off, c, r, rfl, Nat.lt_of_lt_of_le h1 k.next, e1.trans h2, h3⟩
theorem Its.mono {m m' : Mem} {F F' : Nat → Prop} (k : Step m m' F F') : ∀ {vs : List (Bool × Value)} {l : List It}, Its m F vs l → Its m' F' vs l
  | [], [], _ => trivial
  | (_, _) :: _, _ :: _, h => ⟨h.1, h.2.1.mono k, Its.mono k h.2.2⟩
  | [], _ :: _, h => h.elim
  | _ :: _, [], h => h.elim
theorem Its.length {m : Mem} {F : Nat → Prop} : ∀ {vs : List (Bool × Value)} {l : List It}, Its m F vs l → vs.length = l.length
  | [], [], _ => rfl
  | (_, _) :: t, _ :: t', h => by simp [Its.length h.2.2]
  | [], _ :: _, h => h.elim
  | _ :: _, [], h => h.elim
theorem Its.snoc {m : Mem} {F : Nat → Prop} {b : Bool} {v : Value} {it : It} (hb : b = it.bad) (hv : Co m F v it.b) : ∀ {vs : List (Bool × Value)} {l : List It}, Its m F vs l → Its m F (vs ++ [(b, v)]) (l ++ [it])
  | [], [], _ => ⟨hb, hv, trivial⟩
  | (_, _) :: _, _ :: _, h => ⟨h.1, h.2.1, Its.snoc hb hv h.2.2⟩
  | [], _ :: _, h => h.elim
  | _ :: _, [], h => h.elim
def iE (q : Bool × Value) : List Value := [.bool q.1, q.2]
def encI (vs : List (Bool × Value)) : List Value := vs.flatMap iE
/-- A splitter in memory. -/
structure SpAt (m : Mem) (s : Nat) (p : Sp) (oh oo : Nat) : Prop where
  ex : ∃ vh vo vs, m.get s = some ⟨0, [.int .i64 p.st, vh, .int .i64 p.n, .int .i64 p.want, vo]⟩ ∧ Ow m vh 1 oh p.held.length (p.held.map fun c => .int .u8 c) ∧ Ow m vo 2 oo p.out.length (encI vs) ∧ Its m (Fr s oh oo) vs p.out
  slo : m.lo ≤ s
  sn : s < m.next
  hn : oh < m.next
  on : oo < m.next
variable (gv : FuncId → Option (List Value → Mem → Option (Value × Mem)))
theorem begin_run (hg : gv 22 = none) {m : Mem} {s : Nat} {a b c d e : Value} (h : m.get s = some ⟨0, [a, b, c, d, e]⟩) (hl : m.lo ≤ s) :
    L (CC gv) (.call 22) [.pointer (some ⟨s, 0, none⟩)] m [] = some ⟨.ret, [undef], m.set s ⟨0, [.int .i64 0, .slice none 0 0, .int .i64 0, .int .i64 0, e]⟩, []⟩ := by
  refine R22 gv hg ?_
  simp [x22, st_one, h, hl, putL, undef]
theorem Ow.lt {m : Mem} {v : Value} {sz o n s : Nat} {cells cs : List Value} {z : Nat} (h : Ow m v sz o n cells) (hs : m.get s = some ⟨z, cs⟩) (hz : z ≠ sz) (hn : v ≠ .slice none 0 0) : o ≠ s := by
  rcases h.2 with ⟨rfl, _⟩ | ⟨_, h1, _⟩
  · exact absurd rfl hn
  · intro e; subst e
    rw [hs] at h1
    cases h1; exact hz rfl
/-- What is left by begin. -/
theorem SpAt.begun {m : Mem} {s oh oo : Nat} {p : Sp} (h : SpAt m s p oh oo) {a b c d e : Value} (hc : m.get s = some ⟨0, [a, b, c, d, e]⟩) : SpAt (m.set s ⟨0, [.int .i64 0, .slice none 0 0, .int .i64 0, .int .i64 0, e]⟩) s p.begin s oo ∧ Step m (m.set s ⟨0, [.int .i64 0, .slice none 0 0, .int .i64 0, .int .i64 0, e]⟩) (Fr s oh oo) (Fr s s oo) := by
  obtain ⟨⟨vh, vo, vs, h1, h2, h3, h4⟩, slo, sn, hn, on⟩ := h
  rw [h1] at hc
  cases hc
  have hst : Step m (m.set s ⟨0, [.int .i64 0, .slice none 0 0, .int .i64 0, .int .i64 0, e]⟩) (Fr s oh oo) (Fr s s oo) := ⟨rfl, rfl, Nat.le_refl _, fun q hq hf => by
    unfold Fr at hf ⊢
    simp only [not_or] at hf
    exact ⟨by simp [hf.1], by simp [hf.1, hf.2.2]⟩⟩
  refine ⟨⟨⟨.slice none 0 0, e, vs, by simp [Sp.begin], Ow.nil, ?_, h4.mono hst⟩, slo, sn, sn, on⟩, hst⟩
  by_cases hv : e = .slice none 0 0
  · subst hv
    refine ⟨h3.1, .inl ⟨rfl, ?_⟩⟩
    rcases h3.2 with ⟨_, h⟩ | ⟨h, _⟩
    · exact h
    · cases h
  · exact h3.mono (by simp [h3.lt h1 (by omega) hv]) (Nat.le_refl _) rfl
theorem SpAt.lon {m : Mem} {s oh oo : Nat} {p : Sp} (h : SpAt m s p oh oo) : m.lo ≤ m.next := Nat.le_trans h.slo (Nat.le_of_lt h.sn)
theorem Ow.at_s {m : Mem} {v : Value} {sz o n s : Nat} {cells cs : List Value} {z : Nat} (h : Ow m v sz o n cells) (hs : m.get s = some ⟨z, cs⟩) (hz : z ≠ sz) : s = o → v = .slice none 0 0 := by
  intro e
  by_cases hv : v = .slice none 0 0
  · exact hv
  · exact absurd e.symm (h.lt hs hz hv)
theorem Ow.keep {m m' : Mem} {v : Value} {sz o n : Nat} {cells : List Value} (h : Ow m v sz o n cells) (hg : v ≠ .slice none 0 0 → m'.get o = m.get o) (hn : m.next ≤ m'.next) (hl : m'.lo = m.lo) : Ow m' v sz o n cells := by
  by_cases hv : v = .slice none 0 0
  · subst hv
    refine ⟨h.1, .inl ⟨rfl, ?_⟩⟩
    rcases h.2 with ⟨_, h⟩ | ⟨h, _⟩
    · exact h
    · cases h
  · exact h.mono (hg hv) hn hl
/-- Other numbers. -/
theorem SpAt.ints {m : Mem} {s oh oo : Nat} {p : Sp} (h : SpAt m s p oh oo) {a c d : Int} {vh vo : Value} {x y z : Value} (hc : m.get s = some ⟨0, [x, vh, y, z, vo]⟩) : SpAt (m.set s ⟨0, [.int .i64 a, vh, .int .i64 c, .int .i64 d, vo]⟩) s { p with st := a, n := c, want := d } oh oo ∧ Step m (m.set s ⟨0, [.int .i64 a, vh, .int .i64 c, .int .i64 d, vo]⟩) (Fr s oh oo) (Fr s oh oo) := by
  obtain ⟨⟨vh', vo', vs, h1, h2, h3, h4⟩, slo, sn, hn, on⟩ := h
  rw [h1] at hc
  cases hc
  have hst : Step m (m.set s ⟨0, [.int .i64 a, vh, .int .i64 c, .int .i64 d, vo]⟩) (Fr s oh oo) (Fr s oh oo) := ⟨rfl, rfl, Nat.le_refl _, fun q hq hf => by
    refine ⟨?_, hf⟩
    unfold Fr at hf
    simp only [not_or] at hf
    simp [hf.1]⟩
  exact ⟨⟨⟨vh, vo, vs, by simp, h2.keep (fun hv => by simp [h2.lt h1 (by omega) hv]) (Nat.le_refl _) rfl, h3.keep (fun hv => by simp [h3.lt h1 (by omega) hv]) (Nat.le_refl _) rfl, h4.mono hst⟩, slo, sn, hn, on⟩, hst⟩
theorem encI_snoc (vs : List (Bool × Value)) (b : Bool) (v : Value) : encI (vs ++ [(b, v)]) = encI vs ++ [.bool b, v] := by simp [encI, iE]
/-- One more item. -/
theorem SpAt.item {m : Mem} {s oh oo : Nat} {p : Sp} (h : SpAt m s p oh oo) {vh vo : Value} {x y z : Value} (hc : m.get s = some ⟨0, [x, vh, y, z, vo]⟩) (it : It) {v : Value} (hv : Co m (Fr s oh oo) v it.b) (hl : p.out.length ≤ 4000000) :
    ∃ vo' m', (∀ f : Value × Mem → Option Out, ((aLit 2 1 [.bool false, .slice none 0 0] [(0, .agg #[.bool it.bad, v])] m).bind fun r => (aApp false 2 32 vo r.1 r.2).bind f) = f (vo', m')) ∧ single vo' ∧ m'.get s = m.get s ∧ m'.lo = m.lo ∧
      SpAt (m'.set s ⟨0, [x, vh, y, z, vo']⟩) s { p with out := p.out ++ [it] } oh (m.next + 1) ∧ Step m (m'.set s ⟨0, [x, vh, y, z, vo']⟩) (Fr s oh oo) (Fr s oh (m.next + 1)) := by
  have hlon := h.lon
  obtain ⟨⟨vh', vo', vs, h1, h2, h3, h4⟩, slo, sn, hn, on⟩ := h
  rw [h1] at hc
  cases hc
  obtain ⟨w, m', e, g1, g2, g3, g4, g5⟩ := h3.one hlon (x := .agg #[.bool it.bad, v]) (z := [.bool false, .slice none 0 0]) (b := 32) rfl rfl rfl (by omega) (by omega) (by omega)
  have gs : m'.get s = m.get s := g5 s sn (h3.at_s h1 (by omega))
  have hso : m.next + 1 ≠ s := by omega
  have hst : Step m (m'.set s ⟨0, [.int .i64 p.st, vh, .int .i64 p.n, .int .i64 p.want, w]⟩) (Fr s oh oo) (Fr s oh (m.next + 1)) := ⟨g3, g4, by simp only [Mem.next_set]; omega, fun q hq hf => by
    unfold Fr at hf ⊢
    simp only [not_or] at hf ⊢
    exact ⟨by simp [hf.1, g5 q hq (fun e => absurd e hf.2.2)], hf.1, hf.2.1, by omega⟩⟩
  refine ⟨w, m', e, g1.single, gs, g3, ⟨⟨vh, w, vs ++ [(it.bad, v)], by simp, ?_, ?_, ?_⟩, by simp only [Mem.lo_set, g3]; exact slo, by simp only [Mem.next_set]; omega, by simp only [Mem.next_set]; omega, by simp only [Mem.next_set]; omega⟩, hst⟩
  · refine h2.keep (fun hv2 => ?_) (by simp only [Mem.next_set]; omega) (by simpa using g3)
    have a1 := h2.lt h1 (by omega) hv2
    simp only [Mem.get_set, if_neg a1]
    refine g5 oh hn (fun e => ?_)
    subst e
    rcases h2.2 with ⟨h, _⟩ | ⟨_, h, _⟩
    · exact absurd h hv2
    · exact h3.at_s h (by omega) rfl
  · rw [encI_snoc]
    have := g1.mono (m' := m'.set s ⟨0, [.int .i64 p.st, vh, .int .i64 p.n, .int .i64 p.want, w]⟩) (by simp [hso]) (Nat.le_refl _) rfl
    simpa using this
  · exact (h4.mono hst).snoc rfl (hv.mono hst)
/-- One more byte. -/
theorem SpAt.more {m : Mem} {s oh oo : Nat} {p : Sp} (h : SpAt m s p oh oo) {vh vo : Value} {x y z : Value} (hc : m.get s = some ⟨0, [x, vh, y, z, vo]⟩) (c : Int) (hl : p.held.length ≤ 4000000) :
    ∃ vh' m', (∀ f : Value × Mem → Option Out, ((aLit 1 1 [.int .u8 0] [(0, .int .u8 c)] m).bind fun r => (aApp false 1 1 vh r.1 r.2).bind f) = f (vh', m')) ∧ single vh' ∧ m'.get s = m.get s ∧ m'.lo = m.lo ∧
      SpAt (m'.set s ⟨0, [x, vh', y, z, vo]⟩) s { p with held := p.held ++ [c] } (m.next + 1) oo ∧ Step m (m'.set s ⟨0, [x, vh', y, z, vo]⟩) (Fr s oh oo) (Fr s (m.next + 1) oo) := by
  have hlon := h.lon
  obtain ⟨⟨vh', vo', vs, h1, h2, h3, h4⟩, slo, sn, hn, on⟩ := h
  rw [h1] at hc
  cases hc
  obtain ⟨w, m', e, g1, g2, g3, g4, g5⟩ := h2.one hlon (x := .int .u8 c) (z := [.int .u8 0]) (b := 1) rfl rfl rfl (by omega) (by omega) (by omega)
  have gs : m'.get s = m.get s := g5 s sn (h2.at_s h1 (by omega))
  have hso : m.next + 1 ≠ s := by omega
  have hst : Step m (m'.set s ⟨0, [.int .i64 p.st, w, .int .i64 p.n, .int .i64 p.want, vo]⟩) (Fr s oh oo) (Fr s (m.next + 1) oo) := ⟨g3, g4, by simp only [Mem.next_set]; omega, fun q hq hf => by
    unfold Fr at hf ⊢
    simp only [not_or] at hf ⊢
    exact ⟨by simp [hf.1, g5 q hq (fun e => absurd e hf.2.1)], hf.1, by omega, hf.2.2⟩⟩
  refine ⟨w, m', e, g1.single, gs, g3, ⟨⟨w, vo, vs, by simp, ?_, ?_, h4.mono hst⟩, by simp only [Mem.lo_set, g3]; exact slo, by simp only [Mem.next_set]; omega, by simp only [Mem.next_set]; omega, by simp only [Mem.next_set]; omega⟩, hst⟩
  · have := g1.mono (m' := m'.set s ⟨0, [.int .i64 p.st, w, .int .i64 p.n, .int .i64 p.want, vo]⟩) (by simp [hso]) (Nat.le_refl _) rfl
    simpa using this
  · refine h3.keep (fun hv => ?_) (by simp only [Mem.next_set]; omega) (by simpa using g3)
    have a1 := h3.lt h1 (by omega) hv
    simp only [Mem.get_set, if_neg a1]
    refine g5 oo on (fun e => ?_)
    subst e
    rcases h3.2 with ⟨h, _⟩ | ⟨_, h, _⟩
    · exact absurd h hv
    · exact h2.at_s h (by omega) rfl
theorem bad_run (hg : gv 22 = none) (hg2 : gv 21 = none) {m : Mem} {s oh oo : Nat} {p : Sp} (h : SpAt m s p oh oo) (c : Int) (hl : p.out.length ≤ 4000000) :
    ∃ m' oo', L (CC gv) (.call 21) [.pointer (some ⟨s, 0, none⟩), .int .u8 c] m [] = some ⟨.ret, [undef], m', []⟩ ∧ SpAt m' s (p.bad c) s oo' ∧ Step m m' (Fr s oh oo) (Fr s s oo') := by
  obtain ⟨vh, vo, vs, h1, h2, h3, h4⟩ := h.ex
  obtain ⟨w, m1, e, e1, e2, e3, k1, k2⟩ := h.item h1 ⟨true, []⟩ (v := .slice none 0 0) (.inl ⟨rfl, .inl rfl⟩) hl
  have hs2 : m1.lo ≤ s := by rw [e3]; exact h.slo
  have hgs : (m1.set s ⟨0, [.int .i64 p.st, vh, .int .i64 p.n, .int .i64 p.want, w]⟩).get s = some ⟨0, [.int .i64 p.st, vh, .int .i64 p.n, .int .i64 p.want, w]⟩ := by simp
  have hb := begin_run gv hg hgs hs2
  obtain ⟨q1, q2⟩ := k1.begun hgs
  simp only [Mem.set_set] at hb q1 q2
  have hab : aBuild [(0, 1), (1, 1)] [.bool false, .slice none 0 0] [(0, .bool true)] = some (.agg #[.bool true, .slice none 0 0]) := rfl
  by_cases hc : c = 10
  · refine ⟨_, _, R21 gv hg2 ?_, ?_, k2.trans q2⟩
    · simp [x21, h1, hab, e, e1, st_one, e2, hs2, putL, hb, hc, undef]
    · simpa [Sp.bad, hc] using q1
  · obtain ⟨r1, r2⟩ := q1.ints (a := 2) (c := 0) (d := 0) (by simp only [Mem.get_set, if_true]; rfl)
    simp only [Mem.set_set] at r1 r2
    refine ⟨_, _, R21 gv hg2 ?_, ?_, (k2.trans q2).trans r2⟩
    · simp [x21, h1, hab, e, e1, st_one, e2, hs2, putL, hb, hc, undef]
    · simpa [Sp.bad, hc, Sp.begin] using r1
end Go.Proofs.Ythihiidooomdnaa.D
