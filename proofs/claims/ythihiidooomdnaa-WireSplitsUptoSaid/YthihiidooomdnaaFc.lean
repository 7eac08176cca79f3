import Derived.Test.YthihiidooomdnaaFb
namespace Go.Proofs.Ythihiidooomdnaa.D
open Go.RowKit
set_option linter.unusedVariables false
set_option linter.unusedSimpArgs false
variable (gv : FuncId → Option (List Value → Mem → Option (Value × Mem)))
theorem digit_run (hg : gv 22 = none) (hg2 : gv 21 = none) (hg3 : gv 20 = none) {m : Mem} {s oh oo : Nat} {p : Sp} (h : SpAt m s p oh oo) (c : Int) (c0 : 0 ≤ c) (c1 : c ≤ 255) (hl : p.out.length ≤ 4000000) (hh : p.held.length ≤ 4000000) (n0 : 0 ≤ p.n) (n1 : p.n ≤ 99999) :
    ∃ m' oh' oo', L (CC gv) (.call 20) [.pointer (some ⟨s, 0, none⟩), .int .u8 c] m [] = some ⟨.ret, [undef], m', []⟩ ∧ SpAt m' s (p.digit c) oh' oo' ∧ Step m m' (Fr s oh oo) (Fr s oh' oo') := by
  obtain ⟨vh, vo, vs, h1, h2, h3, h4⟩ := h.ex
  have hlen := h2.len
  obtain ⟨mb, ob, b1, b2, b3⟩ := bad_run gv hg hg2 h c hl
  by_cases hd : 48 ≤ c ∧ c ≤ 57
  · by_cases hb : p.held.length = 5 ∨ (0 < p.held.length ∧ p.n = 0)
    · refine ⟨mb, s, ob, R20 gv hg3 ?_, by simpa [Sp.digit, hd, hb] using b2, b3⟩
      rcases hb with hb | ⟨hb, hb2⟩
      · have : (p.held.length : Int) = 5 := by omega
        simp [x20, h1, hlen, hd, this, b1, undef]
      · have e2 : p.held.length ≠ 0 := by omega
        by_cases e5 : (p.held.length : Int) = 5
        · simp [x20, h1, hlen, hd, e5, b1, undef]
        · simp [x20, h1, hlen, hd, e5, hb, hb2, e2, b1, undef]
    · have e5 : ¬ ((p.held.length : Int) = 5) := fun e => hb (.inl (by omega))
      have w1 : IntKind.wrap .i64 (p.n * 10) = p.n * 10 := wrap_i64 (by omega) (by omega)
      have w2 : IntKind.wrap .u8 (c - 48) = c - 48 := wrap_u8 (by omega) (by omega)
      have w3 : IntKind.wrap .i64 (c - 48) = c - 48 := wrap_i64 (by omega) (by omega)
      have w4 : IntKind.wrap .i64 (p.n * 10 + (c - 48)) = p.n * 10 + (c - 48) := wrap_i64 (by omega) (by omega)
      obtain ⟨k1, k2⟩ := h.ints (a := p.st) (c := p.n * 10 + (c - 48)) (d := p.want) h1
      obtain ⟨w, m1, e, g1, g2, g3, g4, g5⟩ := k1.more (x := .int .i64 p.st) (vh := vh) (y := .int .i64 (p.n * 10 + (c - 48))) (z := .int .i64 p.want) (vo := vo) (by simp) c hh
      have hs2 : m1.lo ≤ s := by rw [g3]; exact h.slo
      refine ⟨_, _, _, R20 gv hg3 ?_, ?_, k2.trans g5⟩
      · by_cases e0 : 0 < p.held.length
        · have en : ¬ p.n = 0 := fun e => hb (.inr ⟨e0, e⟩)
          have e2 : p.held.length ≠ 0 := by omega
          simp [x20, h1, hlen, hd, e5, e0, e2, en, w1, w2, w3, w4, st_one, h.slo, putL, e, g1, g2, hs2, undef]
        · have e2 : p.held.length = 0 := by omega
          simp [x20, h1, hlen, hd, e5, e0, e2, w1, w2, w3, w4, st_one, h.slo, putL, e, g1, g2, hs2, undef]
      · simpa [Sp.digit, hd, hb] using g4
  · by_cases hb : c ≠ 58 ∨ p.held.length = 0 ∨ 20000 < p.n
    · have ed : p.digit c = p.bad c := by unfold Sp.digit; rw [if_neg hd, if_pos hb]
      refine ⟨mb, s, ob, R20 gv hg3 ?_, by rw [ed]; exact b2, b3⟩
      by_cases h48 : 48 ≤ c
      · have h57 : ¬ c ≤ 57 := fun e => hd ⟨h48, e⟩
        rcases hb with hb | hb | hb
        · simp [x20, h1, hlen, h48, h57, hb, b1, undef]
        · by_cases e8 : c = 58 <;> simp [x20, h1, hlen, h48, h57, hb, e8, b1, undef] <;> simp [e8] at b1 <;> simp [b1]
        · by_cases e8 : c = 58 <;> by_cases e0 : p.held.length = 0 <;> simp [x20, h1, hlen, h48, h57, hb, e8, e0, b1, undef] <;> simp [e8] at b1 <;> simp [b1]
      · have hne : c ≠ 58 := by omega
        simp [x20, h1, hlen, h48, hne, b1, undef]
    · simp only [not_or, Decidable.not_not] at hb
      obtain ⟨rfl, e0, en⟩ := hb
      obtain ⟨k1, k2⟩ := h.ints (a := 1) (c := p.n) (d := p.n) h1
      obtain ⟨w, m1, e, g1, g2, g3, g4, g5⟩ := k1.more (x := .int .i64 1) (vh := vh) (y := .int .i64 p.n) (z := .int .i64 p.n) (vo := vo) (by simp) 58 hh
      have hs2 : m1.lo ≤ s := by rw [g3]; exact h.slo
      refine ⟨_, _, _, R20 gv hg3 ?_, ?_, k2.trans g5⟩
      · simp [x20, h1, hlen, e0, en, st_one, h.slo, putL, e, g1, g2, hs2, undef]
      · simpa [Sp.digit, e0, en] using g4
@[simp] theorem aIsNil_sn (n : Bool) (a b : Nat) : aIsNil .slc n (.slice none a b) = some (.bool (if n then false else true)) := by cases n <;> rfl
@[simp] theorem aIsNil_ss (n : Bool) (a : Addr) (b c : Nat) : aIsNil .slc n (.slice (some a) b c) = some (.bool (if n then true else false)) := by cases n <;> rfl
theorem Sl.src {m : Mem} {v : Value} {l : List Int} (h : By m v l) : aSrc false 1 v m = some (l.length, l.map fun c => .int .u8 c) := by
  rcases h with ⟨rfl, rfl⟩ | ⟨o, off, c, r, rfl, h0, h1, h2, h3, h4⟩
  · rfl
  · simp only [aSrc, slc?_at', Option.bind_some, Mem.at_, h1]
    rw [if_pos h3]
    simp only [Option.bind_some, Option.some.injEq, Prod.mk.injEq, true_and]
    apply List.ext_getElem?
    intro i
    rw [List.getElem?_take, List.getElem?_drop, List.getElem?_map]
    by_cases hi : i < l.length
    · rw [if_pos (by omega)]
      have := h4 i l[i] (List.getElem?_eq_getElem hi) 0 (by omega)
      simp [bE] at this
      rw [this, List.getElem?_eq_getElem hi]; rfl
    · rw [if_neg (by omega), List.getElem?_eq_none (by omega)]; rfl
theorem Ow.sl {m : Mem} {v : Value} {o : Nat} {l : List Int} (h : Ow m v 1 o l.length (l.map fun c => .int .u8 c)) : By m v l := by
  rcases h.2 with ⟨rfl, h5⟩ | ⟨rfl, h1, h2, _⟩
  · exact .inl ⟨rfl, List.eq_nil_of_length_eq_zero h5⟩
  · refine .inr ⟨o, 0, _, _, rfl, h2, h1, rfl, by simp, fun i x hx j hj => ?_⟩
    obtain rfl : j = 0 := by omega
    simp [hx, bE]
theorem clone_run (hg : gv 17 = none) {m : Mem} {v : Value} {l : List Int} (h : By m v l) (hlo : m.lo ≤ m.next) (hl : l.length ≤ 4000000) :
    ∃ v' m', L (CC gv) (.call 17) [v] m [] = some ⟨.ret, [v'], m', []⟩ ∧ Ge m m' ∧ Co m' (fun q => q < m.next) v' l ∧ single v' := by
  have hlit : aLit 1 0 [.int .u8 0] [] m = some (.slice (some ⟨m.next, 0, none⟩) 0 0, m.push ⟨1, []⟩) := rfl
  have hsrc := (h.mono (Ge.push m ⟨1, []⟩)).src
  rcases h with ⟨rfl, rfl⟩ | ⟨o, off, c, r, rfl, h0, h1, h2, h3, h4⟩
  · exact ⟨.slice none 0 0, m, R17 gv hg (by simp [x17]), .refl m, .inl ⟨rfl, .inl rfl⟩, ⟨rfl, rfl⟩⟩
  · by_cases e : l = []
    · subst e
      refine ⟨.slice (some ⟨m.next, 0, none⟩) 0 0, m.push ⟨1, []⟩, R17 gv hg ?_, .push m _, .inl ⟨rfl, .inr ⟨_, _, _, rfl⟩⟩, ⟨rfl, rfl⟩⟩
      simp only [List.length_nil, List.map_nil] at hsrc
      simp [x17, hlit, aApp, hsrc]
    · have hk : l.length ≠ 0 := fun h => e (List.eq_nil_of_length_eq_zero h)
      refine ⟨.slice (some ⟨m.next + 1, 0, none⟩) l.length (l.length + 1), (m.push ⟨1, []⟩).push ⟨1, l.map fun c => .int .u8 c⟩, R17 gv hg ?_, (Ge.push m _).trans (.push _ _), .inr ⟨m.next + 1, by omega, 0, l.length + 1, ⟨1, l.map fun c => .int .u8 c⟩, rfl, by simp, by simp, rfl, by simp, fun i x hx j hj => ?_⟩, ⟨rfl, rfl⟩⟩
      · have hb : l.length ≤ 274877906944 ∧ l.length ≤ 1099511627776 := by omega
        simp [x17, hlit, aApp, hsrc, e, hb, Mem.at_]
      · obtain rfl : j = 0 := by omega
        simp [hx, bE]
theorem SpAt.ge {m m' : Mem} {s oh oo : Nat} {p : Sp} (h : SpAt m s p oh oo) (k : Ge m m') : SpAt m' s p oh oo ∧ Step m m' (Fr s oh oo) (Fr s oh oo) := by
  have hst : Step m m' (Fr s oh oo) (Fr s oh oo) := ⟨k.lo, k.ro, k.next, fun q hq hf => ⟨k.get q hq, hf⟩⟩
  obtain ⟨⟨vh, vo, vs, h1, h2, h3, h4⟩, slo, sn, hn, on⟩ := h
  have := k.next
  exact ⟨⟨⟨vh, vo, vs, (k.get s sn).trans h1, h2.mono (k.get oh hn) k.next k.lo, h3.mono (k.get oo on) k.next k.lo, h4.mono hst⟩, by rw [k.lo]; exact slo, by omega, by omega, by omega⟩, hst⟩
theorem Co.weak {m : Mem} {F G : Nat → Prop} {v : Value} {b : List Int} (h : Co m F v b) (hs : ∀ q, G q → F q) : Co m G v b := by
  rcases h with h | ⟨o, hf, h⟩
  · exact .inl h
  · exact .inr ⟨o, fun hg => hf (hs o hg), h⟩
theorem byte_run (hg : gv 22 = none) (hg2 : gv 21 = none) (hg3 : gv 18 = none) (hg4 : gv 17 = none) {m : Mem} {s oh oo : Nat} {p : Sp} (h : SpAt m s p oh oo) (c : Int) (hl : p.out.length ≤ 4000000) (hh : p.held.length ≤ 4000000) (w0 : 0 ≤ p.want) (w1 : p.want ≤ 4000000) (n0 : 0 ≤ p.n) (n1 : p.want = 0 → p.n ≤ p.held.length) :
    ∃ m' oh' oo', L (CC gv) (.call 18) [.pointer (some ⟨s, 0, none⟩), .int .u8 c] m [] = some ⟨.ret, [undef], m', []⟩ ∧ SpAt m' s (p.byte c) oh' oo' ∧ Step m m' (Fr s oh oo) (Fr s oh' oo') := by
  obtain ⟨vh, vo, vs, h1, h2, h3, h4⟩ := h.ex
  have hlen := h2.len
  by_cases hw : 0 < p.want
  · have e1 : IntKind.wrap .i64 (p.want - 1) = p.want - 1 := wrap_i64 (by omega) (by omega)
    obtain ⟨k1, k2⟩ := h.ints (a := p.st) (c := p.n) (d := p.want - 1) h1
    obtain ⟨w, m1, e, g1, g2, g3, g4, g5⟩ := k1.more (x := .int .i64 p.st) (vh := vh) (y := .int .i64 p.n) (z := .int .i64 (p.want - 1)) (vo := vo) (by simp) c hh
    have hs2 : m1.lo ≤ s := by rw [g3]; exact h.slo
    refine ⟨_, _, _, R18 gv hg3 ?_, ?_, k2.trans g5⟩
    · simp [x18, h1, hw, e1, st_one, h.slo, putL, e, g1, g2, hs2, undef]
    · simpa [Sp.byte, hw] using g4
  · by_cases hc : c = 10
    · have hw0 : p.want = 0 := by omega
      have hn := n1 hw0
      have e1 : IntKind.wrap .i64 ((p.held.length : Int) - p.n) = ((p.held.length - p.n.toNat : Nat) : Int) := by
        rw [wrap_i64 (by omega) (by omega)]; omega
      obtain ⟨vc, c1, c2⟩ := h2.sl.cut (a := p.held.length - p.n.toNat) (b := p.held.length) (by omega) (Nat.le_refl _) (some (.int .i64 ((p.held.length - p.n.toNat : Nat) : Int))) none (aLo_int (by omega)) rfl
      rw [List.take_length] at c2
      have c3 : By (m.floor m.next) vc (p.held.drop (p.held.length - p.n.toNat)) := c2
      obtain ⟨vb, m2, d1, d2, d3, d4⟩ := clone_run gv hg4 c3 (Nat.le_refl _) (by simp; omega)
      have d5 : Ge m (m2.floor m.lo) := ⟨rfl, d2.ro, d2.next, d2.get⟩
      obtain ⟨k1, k2⟩ := h.ge d5
      have h1' : (m2.floor m.lo).get s = some ⟨0, [.int .i64 p.st, vh, .int .i64 p.n, .int .i64 p.want, vo]⟩ := (d5.get s h.sn).trans h1
      have hco : Co (m2.floor m.lo) (Fr s oh oo) vb (p.held.drop (p.held.length - p.n.toNat)) := Co.weak (m := m2.floor m.lo) (F := fun q => q < m.next) d3 (fun q hq => by
        have := h.sn; have := h.hn; have := h.on
        rcases hq with rfl | rfl | rfl <;> assumption)
      obtain ⟨w, m3, e, g1, g2, g3, g4, g5⟩ := k1.item h1' ⟨false, p.held.drop (p.held.length - p.n.toNat)⟩ hco hl
      have hs2 : m3.lo ≤ s := by rw [g3]; exact h.slo
      have hgs : (m3.set s ⟨0, [.int .i64 p.st, vh, .int .i64 p.n, .int .i64 p.want, w]⟩).get s = some ⟨0, [.int .i64 p.st, vh, .int .i64 p.n, .int .i64 p.want, w]⟩ := by simp
      have hb := begin_run gv hg hgs hs2
      obtain ⟨q1, q2⟩ := g4.begun hgs
      simp only [Mem.set_set] at hb q1 q2
      have hab : aBuild [(0, 1), (1, 1)] [.bool false, .slice none 0 0] [(1, vb)] = some (.agg #[.bool false, vb]) := by
        obtain ⟨s1, s2⟩ := d4
        have : vb.cells.size = 1 := by rw [← Array.length_toList, s2]; rfl
        simp [aBuild, fillL, s1, s2, this, putL]
      refine ⟨_, _, _, R18 gv hg3 ?_, ?_, (k2.trans g5).trans q2⟩
      · have h1'' : m2.get s = some ⟨0, [.int .i64 p.st, vh, .int .i64 p.n, .int .i64 p.want, vo]⟩ := h1'
        simp [x18, h1, hw, hc, hlen, e1, c1, d1, hab, e, g1, g2, hs2, h1'', st_one, putL, hb, undef]
      · simpa [Sp.byte, hw, hc] using q1
    · obtain ⟨mb, ob, b1, b2, b3⟩ := bad_run gv hg hg2 h c hl
      refine ⟨mb, s, ob, R18 gv hg3 ?_, by simpa [Sp.byte, hw, hc] using b2, b3⟩
      simp [x18, h1, hw, hc, b1, undef]
end Go.Proofs.Ythihiidooomdnaa.D
