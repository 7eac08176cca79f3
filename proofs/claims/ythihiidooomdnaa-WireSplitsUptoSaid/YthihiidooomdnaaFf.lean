import Derived.Test.YthihiidooomdnaaFe
namespace Go.Proofs.Ythihiidooomdnaa.D
open Go.RowKit
set_option linter.unusedVariables false
set_option linter.unusedSimpArgs false
variable (gv : FuncId → Option (List Value → Mem → Option (Value × Mem)))
theorem same_loop' (m : Mem) (a b : Value) (x y : List Int) (ha : Rd m a x) (hb : Rd m b y) (hl : x.length = y.length) (hx : x.length ≤ 1000000000000) : ∀ (k i : Nat), i + k = x.length →
    ∃ i', L (CC gv) (.loop 1000) [a, b, .bool false, .int .i64 i] m [] = some (if x.drop i = y.drop i then ⟨.exit 0, [a, b, .bool false, i'], m, []⟩ else ⟨.ret, [a, b, .bool false, i'], m, []⟩) := by
  intro k
  induction k with
  | zero =>
    intro i hi
    have e1 : x.drop i = [] := List.drop_eq_nil_of_le (by omega)
    have e2 : y.drop i = [] := List.drop_eq_nil_of_le (by omega)
    exact ⟨.int .i64 i, Q1000 gv (by simp [y1000, ha.len, show ¬ i < x.length by omega, e1, e2])⟩
  | succ k ih =>
    intro i hi
    have hxi : i < x.length := by omega
    have hyi : i < y.length := by omega
    obtain ⟨o1, f1, a1, a2⟩ := ha.byte (List.getElem?_eq_getElem hxi) .i64
    obtain ⟨o2, f2, b1, b2⟩ := hb.byte (List.getElem?_eq_getElem hyi) .i64
    have e1 : x.drop i = x[i] :: x.drop (i + 1) := List.drop_eq_getElem_cons hxi
    have e2 : y.drop i = y[i] :: y.drop (i + 1) := List.drop_eq_getElem_cons hyi
    by_cases hc : x[i] = y[i]
    · obtain ⟨i', hi'⟩ := ih (i + 1) (by omega)
      refine ⟨i', Q1000 gv ?_⟩
      have hw : IntKind.wrap .i64 ((i : Int) + 1) = (i : Int) + 1 := wrap_i64 (by omega) (by omega)
      rw [Int.natCast_add] at hi'
      simp [y1000, ha.len, hxi, a1, a2, b1, b2, hc, hw]
      have e3 : (x.drop i = y.drop i) = (x.drop (i + 1) = y.drop (i + 1)) := by rw [e1, e2, hc]; simp only [List.cons.injEq, true_and]
      simp only [e3]
      exact hi'
    · refine ⟨.int .i64 i, Q1000 gv ?_⟩
      have e3 : ¬ (x.drop i = y.drop i) := by rw [e1, e2]; intro h; exact hc (List.cons.inj h).1
      simp [y1000, ha.len, hxi, a1, a2, b1, b2, hc, e3]
theorem same_run (hg : gv 10 = none) (m : Mem) (a b : Value) (x y : List Int) (ha : Rd m a x) (hb : Rd m b y) (hx : x.length ≤ 1000000000000) :
    L (CC gv) (.call 10) [a, b] m [] = some ⟨.ret, [.bool (decide (x = y))], m, []⟩ := by
  refine R10 gv hg ?_
  by_cases hl : x.length = y.length
  · obtain ⟨i', h⟩ := same_loop' gv m a b x y ha hb hl hx x.length 0 (by omega)
    simp only [Int.natCast_zero] at h
    simp only [List.drop_zero] at h
    simp [x10, ha.len, hb.len, hl]
    rw [h]
    by_cases e : x = y
    · simp [e, ir10]
    · simp [e, ir10]
  · have : x ≠ y := fun e => hl (by rw [e])
    have h2 : ¬ ((x.length : Int) = y.length) := by omega
    simp [x10, ha.len, hb.len, this, h2]
theorem same_yes (hg : gv 10 = none) {m : Mem} {a b : Value} {x : List Int} (ha : Rd m a x) (hb : Rd m b x) (hx : x.length ≤ 4000000) :
    L (CC gv) (.call 10) [a, b] m [] = some ⟨.ret, [.bool true], m, []⟩ := by
  simpa using same_run gv hg m a b x x ha hb (by omega)
theorem Co.single {m : Mem} {F : Nat → Prop} {v : Value} {l : List Int} (h : Co m F v l) : single v := by
  rcases h with ⟨rfl, rfl | ⟨o, off, c, rfl⟩⟩ | ⟨o, _, off, c, r, rfl, _⟩ <;> exact ⟨rfl, rfl⟩
theorem Its.get {m : Mem} {F : Nat → Prop} : ∀ {vs : List (Bool × Value)} {l : List It}, Its m F vs l → ∀ {i : Nat} {q : Bool × Value}, vs[i]? = some q → ∃ it, l[i]? = some it ∧ q.1 = it.bad ∧ Co m F q.2 it.b
  | [], [], _, i, q, h => by simp at h
  | (b, v) :: t, it :: t', h, i, q, hq => by
    cases i with
    | zero => simp at hq; subst hq; exact ⟨it, rfl, h.1, h.2.1⟩
    | succ i => exact Its.get h.2.2 (by simpa using hq)
  | [], _ :: _, h, _, _, _ => h.elim
  | _ :: _, [], h, _, _, _ => h.elim
/-- An item, read. -/
theorem Sl.item {m : Mem} {v : Value} {vs : List (Bool × Value)} (h : Sl m v 2 iE vs) {i : Nat} {q : Bool × Value} (hx : vs[i]? = some q) (k : IntKind) : ∃ o off, aIdx 2 v (.int k i) = some (.pointer (some ⟨o, off, none⟩)) ∧ ((m.get o).bind fun r => r.cells[off]?) = some (.bool q.1) ∧ ((m.get o).bind fun r => r.cells[off + 1]?) = some q.2 := by
  obtain ⟨o, off, r, a, b, c⟩ := Sl.idx h hx k
  exact ⟨o, off, a, by rw [b]; simpa [iE] using c 0 (by omega), by rw [b]; simpa [iE] using c 1 (by omega)⟩
/-- What was there before a number is there as it was. -/
structure GeN (N : Nat) (m m' : Mem) : Prop where
  lo : m'.lo = m.lo
  ro : m'.ro = m.ro
  next : m.next ≤ m'.next
  get : ∀ o, o < N → m'.get o = m.get o
theorem GeN.refl (N : Nat) (m : Mem) : GeN N m m := ⟨rfl, rfl, Nat.le_refl _, fun _ _ => rfl⟩
theorem GeN.trans {N : Nat} {a b c : Mem} (h : GeN N a b) (k : GeN N b c) : GeN N a c := ⟨k.lo.trans h.lo, k.ro.trans h.ro, Nat.le_trans h.next k.next, fun o ho => (k.get o ho).trans (h.get o ho)⟩
theorem GeN.ge {m m' : Mem} (h : GeN m.next m m') : Ge m m' := ⟨h.lo, h.ro, h.next, h.get⟩
theorem Ge.N {m m' : Mem} (h : Ge m m') {N : Nat} (hN : N ≤ m.next) : GeN N m m' := ⟨h.lo, h.ro, h.next, fun o ho => h.get o (Nat.lt_of_lt_of_le ho hN)⟩
/-- One more item at the end of a list of our own. -/
theorem Ow.itm {m : Mem} {v : Value} {o : Nat} {vs : List (Bool × Value)} (h : Ow m v 2 o vs.length (encI vs)) (hm : m.lo ≤ m.next) (q : Bool × Value) (hl : vs.length ≤ 4000000) {N : Nat} (hN : N ≤ m.next) (ho : o < N → v = .slice none 0 0) :
    ∃ v' m', (∀ f : Value × Mem → Option Out, ((aLit 2 1 [.bool false, .slice none 0 0] [(0, .agg #[.bool q.1, q.2])] m).bind fun r => (aApp false 2 32 v r.1 r.2).bind f) = f (v', m')) ∧ Ow m' v' 2 (m.next + 1) (vs ++ [q]).length (encI (vs ++ [q])) ∧ m'.next = m.next + 2 ∧ GeN N m m' := by
  obtain ⟨w, m', e, g1, g2, g3, g4, g5⟩ := h.one hm (x := .agg #[.bool q.1, q.2]) (z := [.bool false, .slice none 0 0]) (b := 32) rfl rfl rfl (by omega) (by omega) (by omega)
  refine ⟨w, m', e, ?_, g2, g3, g4, by omega, fun x hx => g5 x (by omega) (fun e => ho (by omega))⟩
  have : encI (vs ++ [q]) = encI vs ++ [.bool q.1, q.2] := encI_snoc vs q.1 q.2
  rw [this]
  simpa using g1
theorem Sl.below {α : Type} {m : Mem} {v : Value} {sz : Nat} {enc : α → List Value} {l : List α} (h : Sl m v sz enc l) {m' : Mem} {N : Nat} (hN : m.next ≤ N) (k : GeN N m m') : Sl m' v sz enc l := h.mono ⟨k.lo, k.ro, k.next, fun o ho => k.get o (by omega)⟩
theorem build_item (b : Bool) {v : Value} (hv : single v) : aBuild [(0, 1), (1, 1)] [.bool false, .slice none 0 0] [(0, .bool b), (1, v)] = some (.agg #[.bool b, v]) := by
  obtain ⟨s1, s2⟩ := hv
  have : v.cells.size = 1 := by rw [← Array.length_toList, s2]; rfl
  simp [aBuild, fillL, s1, s2, this, putL]
theorem back_loop {vs : List (Bool × Value)} (hs : ∀ q ∈ vs, single q.2) (m0 : Mem) (a : Value) (ha : Sl m0 a 2 iE vs) (hl : vs.length ≤ 4000000) : ∀ (k i : Nat) (m : Mem) (v : Value) (o : Nat), i + k = vs.length → GeN m0.next m0 m → m.lo ≤ m.next → Ow m v 2 o i (encI (vs.take i)) → (o < m0.next → v = .slice none 0 0) →
    ∃ v' m' o', L (CC gv) (.loop 900) [a, v, .int .i64 i] m [] = some ⟨.exit 0, [a, v', .int .i64 vs.length], m', []⟩ ∧ GeN m0.next m0 m' ∧ Ow m' v' 2 o' vs.length (encI vs) ∧ m'.lo ≤ m'.next := by
  intro k
  induction k with
  | zero =>
    intro i m v o hi hg hm ho hno
    obtain rfl : i = vs.length := by omega
    rw [List.take_length] at ho
    refine ⟨v, m, o, Q900 gv ?_, hg, ho, hm⟩
    simp [y900, ha.len]
  | succ k ih =>
    intro i m v o hi hg hm ho hno
    have hxi : i < vs.length := by omega
    have ha' := ha.mono hg.ge
    obtain ⟨p, off, a1, a2, a3⟩ := ha'.item (List.getElem?_eq_getElem hxi) .i64
    have hti : (vs.take i).length = i := by simp; omega
    have ho' : Ow m v 2 o (vs.take i).length (encI (vs.take i)) := by rw [hti]; exact ho
    obtain ⟨w, m1, e, g1, g2, g3⟩ := ho'.itm hm vs[i] (by rw [hti]; omega) (N := m0.next) hg.next hno
    have htk : vs.take i ++ [vs[i]] = vs.take (i + 1) := (List.take_append_getElem hxi)
    rw [htk] at g1
    have hti1 : (vs.take (i + 1)).length = i + 1 := by simp; omega
    rw [hti1] at g1
    obtain ⟨v', m', o', d1, d2, d3, d4⟩ := ih (i + 1) m1 w (m.next + 1) (by omega) (hg.trans g3) (by rw [g3.lo, g2]; omega) g1 (fun h => by have := hg.next; omega)
    have hw : IntKind.wrap .i64 ((i : Int) + 1) = (i : Int) + 1 := wrap_i64 (by omega) (by omega)
    rw [Int.natCast_add] at d1
    simp only [Int.natCast_one] at d1
    have hb := build_item vs[i].1 (hs vs[i] (List.getElem_mem hxi))
    refine ⟨v', m', o', Q900 gv ?_, d2, d3, d4⟩
    simp [y900, ha.len, hxi, a1, a2, a3, hb, e, hw, d1]
theorem back_run (hg : gv 9 = none) {m : Mem} {a : Value} {vs : List (Bool × Value)} (ha : Sl m a 2 iE vs) (hs : ∀ q ∈ vs, single q.2) (hl : vs.length ≤ 4000000) (hm : m.lo ≤ m.next) :
    ∃ v m', L (CC gv) (.call 9) [a] m [] = some ⟨.ret, [v], m', []⟩ ∧ Ge m m' ∧ Sl m' v 2 iE vs := by
  obtain ⟨v', m', o', d1, d2, d3, d4⟩ := back_loop gv hs m a ha hl vs.length 0 m (.slice none 0 0) 0 (by omega) (.refl _ _) hm (by simpa [encI] using Ow.nil) (fun _ => rfl)
  simp only [Int.natCast_zero] at d1
  refine ⟨v', m', R9 gv hg ?_, d2.ge, d3.toSl (fun _ => rfl) rfl⟩
  simp [x9, d1]
theorem items_loop (hg : gv 10 = none) {m : Mem} {a b : Value} {vs ws : List (Bool × Value)} {l : List It} (ha : Sl m a 2 iE vs) (hb : Sl m b 2 iE ws) (hv : Its m (fun _ => False) vs l) (hw : Its m (fun _ => False) ws l) (hl : l.length ≤ 4000000) (hb2 : ∀ it ∈ l, it.b.length ≤ 4000000) : ∀ (k i : Nat), i + k = l.length →
    L (CC gv) (.loop 800) [a, b, .bool false, .int .i64 i] m [] = some ⟨.exit 0, [a, b, .bool false, .int .i64 l.length], m, []⟩ := by
  intro k
  induction k with
  | zero =>
    intro i hi
    obtain rfl : i = l.length := by omega
    refine Q800 gv ?_
    simp [y800, ha.len, hv.length]
  | succ k ih =>
    intro i hi
    have hli := hv.length
    have hlj := hw.length
    have hxi : i < vs.length := by omega
    have hyi : i < ws.length := by omega
    have hzi : i < l.length := by omega
    obtain ⟨p, off, a1, a2, a3⟩ := ha.item (List.getElem?_eq_getElem hxi) .i64
    obtain ⟨p', off', b1, b2, b3⟩ := hb.item (List.getElem?_eq_getElem hyi) .i64
    obtain ⟨it, c1, c2, c3⟩ := hv.get (List.getElem?_eq_getElem hxi)
    obtain ⟨it', d1, d2, d3⟩ := hw.get (List.getElem?_eq_getElem hyi)
    rw [c1] at d1
    cases d1
    have hmem : it ∈ l := List.mem_of_getElem? c1
    have hs := same_yes gv hg c3 d3 (hb2 it hmem)
    have hwr : IntKind.wrap .i64 ((i : Int) + 1) = (i : Int) + 1 := wrap_i64 (by omega) (by omega)
    have hih := ih (i + 1) (by omega)
    rw [Int.natCast_add] at hih
    simp only [Int.natCast_one] at hih
    refine Q800 gv ?_
    simp [y800, ha.len, hxi, hli, hzi, a1, a2, a3, b1, b2, b3, c2, d2, hs, hwr, hih]
theorem items_run (hg : gv 10 = none) (hg2 : gv 8 = none) {m : Mem} {a b : Value} {vs ws : List (Bool × Value)} {l : List It} (ha : Sl m a 2 iE vs) (hb : Sl m b 2 iE ws) (hv : Its m (fun _ => False) vs l) (hw : Its m (fun _ => False) ws l) (hl : l.length ≤ 4000000) (hb2 : ∀ it ∈ l, it.b.length ≤ 4000000) :
    L (CC gv) (.call 8) [a, b] m [] = some ⟨.ret, [.bool true], m, []⟩ := by
  have h := items_loop gv hg ha hb hv hw hl hb2 l.length 0 (by omega)
  simp only [Int.natCast_zero] at h
  refine R8 gv hg2 ?_
  simp [x8, ha.len, hb.len, hv.length, hw.length, h]
end Go.Proofs.Ythihiidooomdnaa.D
