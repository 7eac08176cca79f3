import Derived.Test.YthihiidooomdnaaFh
namespace Go.Proofs.Ythihiidooomdnaa.D
open Go.RowKit
set_option linter.unusedVariables false
set_option linter.unusedSimpArgs false
theorem NoW1 : NoW gv1 := ⟨rfl, rfl, rfl, rfl, rfl, rfl, rfl, rfl, rfl, rfl, rfl⟩
theorem Sl.rd {m : Mem} {b : Value} {xs : List Int} (h : By m b xs) : Rd m b xs := by
  rcases h with ⟨rfl, rfl⟩ | ⟨o, off, c, r, h0, h⟩
  · exact .inl ⟨rfl, .inl rfl⟩
  · exact .inr ⟨o, fun h => h, off, c, r, h0, h⟩
theorem Its.sing {m : Mem} {F : Nat → Prop} {vs : List (Bool × Value)} {l : List It} (h : Its m F vs l) : ∀ q ∈ vs, single q.2 := by
  intro q hq
  obtain ⟨i, hi⟩ := List.getElem?_of_mem hq
  obtain ⟨it, _, _, hc⟩ := h.get hi
  exact hc.single
theorem Its.append {m : Mem} {F : Nat → Prop} : ∀ {vs : List (Bool × Value)} {l : List It} {ws : List (Bool × Value)} {k : List It}, Its m F vs l → Its m F ws k → Its m F (vs ++ ws) (l ++ k)
  | [], [], _, _, _, h => h
  | (_, _) :: _, _ :: _, _, _, h, k => ⟨h.1, h.2.1, Its.append h.2.2 k⟩
  | [], _ :: _, _, _, h, _ => h.elim
  | _ :: _, [], _, _, h, _ => h.elim
/-- Where rows of elements of two cells change, bytes stay. -/
theorem Co.past {m m' : Mem} {F : Nat → Prop} {v : Value} {b : List Int} (h : Co m F v b) {ol : Nat} {vl : Value} {n : Nat} {cells : List Value} (ho : Ow m vl 2 ol n cells) (hn : m.next ≤ m'.next) (hf : ∀ q, q < m.next → (q = ol → vl = .slice none 0 0) → m'.get q = m.get q) : Co m' F v b := by
  rcases h with h | ⟨o, hF, off, c, r, rfl, h1, h2, h3, h4⟩
  · exact .inl h
  · refine .inr ⟨o, hF, off, c, r, rfl, by omega, ?_, h3, h4⟩
    rw [hf o h1 (fun e => ?_), h2]
    subst e
    rcases ho.2 with ⟨h, _⟩ | ⟨_, h, _⟩
    · exact h
    · rw [h2] at h
      cases h
      exact absurd h3 (by simp)
theorem Its.past {m m' : Mem} {F : Nat → Prop} {ol : Nat} {vl : Value} {n : Nat} {cells : List Value} (ho : Ow m vl 2 ol n cells) (hn : m.next ≤ m'.next) (hf : ∀ q, q < m.next → (q = ol → vl = .slice none 0 0) → m'.get q = m.get q) : ∀ {vs : List (Bool × Value)} {l : List It}, Its m F vs l → Its m' F vs l
  | [], [], _ => trivial
  | (_, _) :: _, _ :: _, h => ⟨h.1, h.2.1.past ho hn hf, Its.past ho hn hf h.2.2⟩
  | [], _ :: _, h => h.elim
  | _ :: _, [], h => h.elim
theorem SpAt.keepIt {m m' : Mem} {s oh oo : Nat} {p : Sp} (h : SpAt m s p oh oo) (hp : p.out = []) (hg : ∀ q, Fr s oh oo q → m'.get q = m.get q) (hn : m.next ≤ m'.next) (hl : m'.lo = m.lo) : SpAt m' s p oh oo := by
  obtain ⟨⟨vh, vo, vs, h1, h2, h3, h4⟩, slo, sn, hhn, on⟩ := h
  rw [hp] at h4 h3
  have hvs : vs = [] := List.eq_nil_of_length_eq_zero h4.length
  subst hvs
  refine ⟨⟨vh, vo, [], by rw [hg s (.inl rfl), h1], h2.mono (hg oh (.inr (.inl rfl))) hn hl, ?_, by rw [hp]; trivial⟩, by rw [hl]; exact slo, by omega, by omega, by omega⟩
  rw [hp]
  exact h3.mono (hg oo (.inr (.inr rfl))) hn hl
/-- While pieces are fed. -/
structure FI (m0 m : Mem) (s oh oo : Nat) (p : Sp) (vl : Value) (ol : Nat) (ws : List (Bool × Value)) (its : List It) : Prop where
  hg : GeN m0.next m0 m
  nx : m0.next ≤ m.next
  hm : m.lo ≤ m.next
  sp : SpAt m s p oh oo
  po : p.out = []
  fr : ∀ q, q < m0.next → ¬ Fr s oh oo q
  ow : Ow m vl 2 ol ws.length (encI ws)
  ol : vl = .slice none 0 0 ∨ (m0.next ≤ ol ∧ ¬ Fr s oh oo ol)
  its : Its m (Fr s oh oo) ws its
theorem Sp.Ok.clear {p : Sp} (h : p.Ok) (o : List It) : ({ p with out := o } : Sp).Ok := ⟨h.st, h.d, h.b⟩
theorem FI.feed {m0 m : Mem} {s oh oo : Nat} {p : Sp} {vl : Value} {ol : Nat} {ws : List (Bool × Value)} {its : List It} (h : FI m0 m s oh oo p vl ol ws its) {b : Value} {ys : List Int} (hb : By m0 b ys) (hy : ∀ c ∈ ys, 0 ≤ c ∧ c ≤ 255) (hok : p.Ok) (hsk : p.st = 2 → p.held = []) (hl : its.length + ys.length ≤ 2000000) :
    ∃ v1 m1 v2 m2 vl' m3 oh' ol' vs, L (CC gv1) (.call 13) [.pointer (some ⟨s, 0, none⟩), b] m [] = some ⟨.ret, [v1], m1, []⟩ ∧ L (CC gv1) (.call 9) [v1] m1 [] = some ⟨.ret, [v2], m2, []⟩ ∧ aApp false 2 32 vl v2 m2 = some (vl', m3) ∧
      FI m0 m3 s oh' s { p.run ys with out := [] } vl' ol' (ws ++ vs) (its ++ (p.run ys).out) := by
  obtain ⟨v1, vs, m1, oh1, a1, a2, a3, a4, a5⟩ := feed_run gv1 NoW1 b ys hy (by omega) h.sp hok hsk (hb.toCo h.hg h.nx h.fr) (by rw [h.po]; simp only [List.length_nil]; omega)
  have hvl := a5.length
  have hro : (p.run ys).out.length ≤ ys.length := by have := Sp.run_out p ys; rw [h.po] at this; simpa using this
  have hwl := h.its.length
  have hm1 : m1.lo ≤ m1.next := a2.lon
  obtain ⟨v2, m2, b1, b2, b3⟩ := back_run gv1 rfl a4 a5.sing (by omega) hm1
  have hm2 : m2.lo ≤ m2.next := by rw [b2.lo]; have := b2.next; omega
  -- our list is where it was
  have hol : vl ≠ .slice none 0 0 → m1.get ol = m.get ol ∧ ¬ Fr s oh1 s ol := fun hv => by
    rcases h.ol with e | ⟨_, e⟩
    · exact absurd e hv
    · rcases h.ow.2 with ⟨e2, _⟩ | ⟨_, _, h3, _⟩
      · exact absurd e2 hv
      · exact a3.get ol h3 e
  have ow1 : Ow m1 vl 2 ol ws.length (encI ws) := h.ow.keep (fun hv => (hol hv).1) a3.next a3.lo
  have ow2 : Ow m2 vl 2 ol ws.length (encI ws) := ow1.keep (fun hv => b2.get ol (by
    rcases ow1.2 with ⟨e, _⟩ | ⟨_, _, h3, _⟩
    · exact absurd e hv
    · exact h3)) b2.next b2.lo
  obtain ⟨vl', m3, ol', c1, c2, c3, c4, c5, c6, c7⟩ := ow2.apps hm2 b3 (by omega)
  have n1 := a3.next
  have n2 := b2.next
  have nx := h.nx
  have fr1 : ∀ q, q < m0.next → ¬ Fr s oh1 s q := fun q hq => (a3.get q (by omega) (h.fr q hq)).2
  have fl1 : ∀ q, Fr s oh1 s q → q < m1.next := fun q hq => by
    have := a2.sn; have := a2.hn
    rcases hq with rfl | rfl | rfl <;> assumption
  have sp2 : SpAt m2 s { p.run ys with out := [] } oh1 s := (a2.ge b2).1
  refine ⟨v1, m1, v2, m2, vl', m3, oh1, ol', vs, a1, b1, c1, ⟨c4.trans (b2.lo.trans (a3.lo.trans h.hg.lo)), c5.trans (b2.ro.trans (a3.ro.trans h.hg.ro)), by have := h.hg.next; omega, ?_⟩, by omega, by rw [c4]; omega, ?_, rfl, fr1, c2, ?_, ?_⟩
  · intro q hq
    rw [c6 q (by omega) (fun e => ?_), b2.get q (by omega), (a3.get q (by omega) (h.fr q hq)).1, h.hg.get q hq]
    rcases h.ol with e2 | ⟨e2, _⟩
    · exact e2
    · omega
  · refine sp2.keepIt rfl (fun q hq => c6 q (by have := fl1 q hq; omega) (fun e => ?_)) c3 c4
    by_cases hv : vl = .slice none 0 0
    · exact hv
    · exact absurd (e ▸ hq) (hol hv).2
  · rcases c7 with ⟨rfl, rfl⟩ | c7
    · rcases h.ol with e | ⟨e, _⟩
      · exact .inl e
      · by_cases hv : vl' = .slice none 0 0
        · exact .inl hv
        · exact .inr ⟨e, (hol hv).2⟩
    · exact .inr ⟨by omega, fun hq => by have := fl1 _ hq; omega⟩
  · exact (((h.its.mono a3).ge b2).append (a5.ge b2)).past ow2 c3 c6
theorem feeds_loop (m0 : Mem) (a0 a1 : Value) (xs ns : List Int) (hx : ∀ c ∈ xs, 0 ≤ c ∧ c ≤ 255) (hxl : xs.length ≤ 1100000) (ha1 : Sl m0 a1 1 (fun n => [.int .i64 n]) ns) (hnl : ns.length ≤ 100) (s : Nat) : ∀ (k i : Nat) (m : Mem) (oh oo : Nat) (vl : Value) (ol : Nat) (ws : List (Bool × Value)) (rest : Value) (c : Nat), i + k = ns.length → c ≤ xs.length →
    FI m0 m s oh oo { Sp.new.run (xs.take c) with out := [] } vl ol ws (Sp.new.run (xs.take c)).out → By m0 rest (xs.drop c) →
    ∃ m' oh' oo' vl' ol' ws' rest' c', L (CC gv1) (.loop 400) [a0, a1, .pointer (some ⟨s, 0, none⟩), vl, rest, .int .i64 i] m [] = some ⟨.exit 0, [a0, a1, .pointer (some ⟨s, 0, none⟩), vl', rest', .int .i64 ns.length], m', []⟩ ∧ c' ≤ xs.length ∧
      FI m0 m' s oh' oo' { Sp.new.run (xs.take c') with out := [] } vl' ol' ws' (Sp.new.run (xs.take c')).out ∧ By m0 rest' (xs.drop c') := by
  intro k
  induction k with
  | zero =>
    intro i m oh oo vl ol ws rest c hi hc h hr
    obtain rfl : i = ns.length := by omega
    refine ⟨m, oh, oo, vl, ol, ws, rest, c, Q400 gv1 ?_, hc, h, hr⟩
    simp [y400, ha1.len]
  | succ k ih =>
    intro i m oh oo vl ol ws rest c hi hc h hr
    have hxi : i < ns.length := by omega
    have hn1 := ha1.mono h.hg.ge
    obtain ⟨o, off, r, p1, p2, p3⟩ := hn1.idx (List.getElem?_eq_getElem hxi) .i64
    have p4 := p3 0 (by omega)
    simp only [Nat.add_zero, List.getElem?_cons_zero] at p4
    -- how much is fed
    have hrl : (xs.drop c).length = xs.length - c := List.length_drop
    have key : ∀ n : Nat, n ≤ xs.length - c → ∃ v1 m1 v2 m2 vl' m3 oh' ol' ws' vcut vrest, aCut 1 rest none (some (.int .i64 (n : Int))) m = some vcut ∧ L (CC gv1) (.call 13) [.pointer (some ⟨s, 0, none⟩), vcut] m [] = some ⟨.ret, [v1], m1, []⟩ ∧ L (CC gv1) (.call 9) [v1] m1 [] = some ⟨.ret, [v2], m2, []⟩ ∧ aApp false 2 32 vl v2 m2 = some (vl', m3) ∧
        FI m0 m3 s oh' s { Sp.new.run (xs.take (c + n)) with out := [] } vl' ol' ws' (Sp.new.run (xs.take (c + n))).out ∧ aCut 1 rest (some (.int .i64 (n : Int))) none m3 = some vrest ∧ By m0 vrest (xs.drop (c + n)) := by
      intro n hn
      obtain ⟨vcut, q1, q2⟩ := hr.cut_at h.hg (a := 0) (b := n) (by omega) (by omega) none (some (.int .i64 (n : Int))) rfl (aHi_int (by omega))
      rw [List.drop_zero] at q2
      have hok : (Sp.new.run (xs.take c)).Ok := Sp.Ok.new.run _
      have hsk := Sp.skip_run (s := Sp.new) (fun _ => rfl) (xs.take c)
      have hro := Sp.run_out Sp.new (xs.take c)
      have htl : (xs.take c).length = c := by simp; omega
      have hdl : ((xs.drop c).take n).length = n := by simp; omega
      have hno : (Sp.new).out.length = 0 := rfl
      obtain ⟨v1, m1, v2, m2, vl', m3, oh', ol', vs, e1, e2, e3, e4⟩ := h.feed q2 (fun x hxx => hx x (List.mem_of_mem_drop (List.mem_of_mem_take hxx))) (hok.clear []) hsk (by rw [htl, hno] at hro; omega)
      have hrun : Sp.new.run (xs.take (c + n)) = (Sp.new.run (xs.take c)).run ((xs.drop c).take n) := by
        rw [← Sp.run_append]
        congr 1
        rw [List.take_add]
      have hcl := Sp.run_clear (Sp.new.run (xs.take c)) ((xs.drop c).take n)
      obtain ⟨vr, r1, r2⟩ := hr.cut_at e4.hg (a := n) (b := (xs.drop c).length) (by omega) (Nat.le_refl _) (some (.int .i64 (n : Int))) none (aLo_int (by omega)) rfl
      rw [List.take_length, List.drop_drop] at r2
      refine ⟨v1, m1, v2, m2, vl', m3, oh', ol', ws ++ vs, vcut, vr, q1, e1, e2, e3, ?_, r1, r2⟩
      rw [hrun, hcl]
      exact e4
    have hw : IntKind.wrap .i64 ((i : Int) + 1) = (i : Int) + 1 := wrap_i64 (by omega) (by omega)
    have go : ∀ n : Nat, n ≤ xs.length - c → (∀ m : Mem, ∀ f : List Value → Mem → Option Out, True) → (if ns[i] < 0 then (0 : Int) else if ((xs.drop c).length : Int) < ns[i] then 0 else ns[i]) = (n : Int) →
        ∃ m' oh' oo' vl' ol' ws' rest' c', L (CC gv1) (.loop 400) [a0, a1, .pointer (some ⟨s, 0, none⟩), vl, rest, .int .i64 i] m [] = some ⟨.exit 0, [a0, a1, .pointer (some ⟨s, 0, none⟩), vl', rest', .int .i64 ns.length], m', []⟩ ∧ c' ≤ xs.length ∧
          FI m0 m' s oh' oo' { Sp.new.run (xs.take c') with out := [] } vl' ol' ws' (Sp.new.run (xs.take c')).out ∧ By m0 rest' (xs.drop c') := by
      intro n hn _ hnn
      obtain ⟨v1, m1, v2, m2, vl1, m3, oh1, ol1, ws1, vcut, vr, k1, k2, k3, k4, k5, k6, k7⟩ := key n hn
      obtain ⟨m', oh', oo', vl', ol', ws', rest', c', d1, d2, d3, d4⟩ := ih (i + 1) m3 oh1 s vl1 ol1 ws1 vr (c + n) (by omega) (by omega) k5 k7
      rw [Int.natCast_add] at d1
      simp only [Int.natCast_one] at d1
      refine ⟨m', oh', oo', vl', ol', ws', rest', c', Q400 gv1 ?_, d2, d3, d4⟩
      by_cases g1 : ns[i] < 0
      · rw [if_pos g1] at hnn
        rw [← hnn] at k1 k6
        simp [y400, ha1.len, hxi, p1, p2, p4, g1, k1, k2, k3, k4, k6, hw, d1]
      · rw [if_neg g1] at hnn
        by_cases g2 : ((xs.drop c).length : Int) < ns[i]
        · rw [if_pos g2] at hnn
          rw [← hnn] at k1 k6
          simp only [List.length_drop] at g2
          simp [y400, ha1.len, hr.len, hxi, p1, p2, p4, g1, g2, k1, k2, k3, k4, k6, hw, d1]
        · rw [if_neg g2] at hnn
          rw [← hnn] at k1 k6
          simp only [List.length_drop] at g2
          simp [y400, ha1.len, hr.len, hxi, p1, p2, p4, g1, g2, k1, k2, k3, k4, k6, hw, d1]
    by_cases g1 : ns[i] < 0
    · exact go 0 (by omega) (fun _ _ => trivial) (by rw [if_pos g1]; rfl)
    · by_cases g2 : ((xs.drop c).length : Int) < ns[i]
      · exact go 0 (by omega) (fun _ _ => trivial) (by rw [if_neg g1, if_pos g2]; rfl)
      · exact go ns[i].toNat (by omega) (fun _ _ => trivial) (by rw [if_neg g1, if_neg g2]; omega)
end Go.Proofs.Ythihiidooomdnaa.D
