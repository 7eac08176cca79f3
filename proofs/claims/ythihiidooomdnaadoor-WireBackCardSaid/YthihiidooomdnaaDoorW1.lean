/-
  The splitter in the second reading.
-/
import Derived.Test.YthihiidooomdnaaDoorWh
import Derived.Test.YthihiidooomdnaaDoorWq
namespace Go.Proofs.YthihiidooomdnaaDoor.D
open Go.RowKit
set_option linter.unusedVariables false
set_option linter.unusedSimpArgs false
/-- An item's bytes: none, or a row of its own, which is not another one. -/
def ItemAt (m : Mem) (hv : Value) (it : It) (e : List Value) : Prop :=
  ∃ v, e = [.bool it.bad, v] ∧ (((v = .slice none 0 0 ∨ v = fz 1 true []) ∧ it.b = []) ∨ ∃ q c, v = .slice (some ⟨q, 0, none⟩) it.b.length c ∧ m.get q = some ⟨1, it.b.map fun n => .int .u8 n⟩ ∧ m.lo ≤ q ∧ q < m.next ∧ ∀ n c, hv ≠ .slice (some ⟨q, 0, none⟩) n c)
structure Rep (m : Mem) (o : Nat) (s : Sp) (hv ov : Value) (els : List (List Value)) : Prop where
  row : m.get o = some ⟨0, [.int .i64 s.st, hv, .int .i64 s.n, .int .i64 s.want, ov]⟩
  lo : m.lo = o
  lt : o < m.next
  held : Own m hv 1 (s.held.map fun n => [.int .u8 n])
  out : Own m ov 2 els
  len : els.length = s.out.length
  items : ∀ (i : Nat) e it, els[i]? = some e → s.out[i]? = some it → ItemAt m hv it e
theorem Own.row {m : Mem} {v : Value} {sz : Nat} {els : List (List Value)} (h : Own m v sz els) {o n c : Nat} (e : v = .slice (some ⟨o, 0, none⟩) n c) : m.get o = some ⟨sz, els.flatten⟩ := by
  rcases h.at_ with ⟨rfl, _⟩ | ⟨o', c', _, rfl, _, hg, _⟩
  · cases e
  · cases e; exact hg
theorem Own.set {m : Mem} {v : Value} {sz : Nat} {els : List (List Value)} (h : Own m v sz els) {o : Nat} {r : Row} (hn : ∀ n c, v ≠ .slice (some ⟨o, 0, none⟩) n c) : Own (m.set o r) v sz els := by
  refine ⟨by simpa using h.lo, h.lens, ?_⟩
  rcases h.at_ with hh | ⟨o', c', h1, rfl, h3, h4, h5, h6⟩
  · exact .inl hh
  · refine .inr ⟨o', c', h1, rfl, h3, ?_, by simpa using h5, by simpa using h6⟩
    rw [Mem.get_set, if_neg (fun e => hn _ _ (by rw [e]))]
    exact h4
theorem begin_V {m : Mem} {o : Nat} {a b c d e : Value} (hg : m.get o = some ⟨0, [a, b, c, d, e]⟩) (hlo : m.lo ≤ o) : LV CV (.call 28) [.pointer (some ⟨o, 0, none⟩)] m [] = some ⟨.ret, [.tuple #[]], m.set o ⟨0, [.int .i64 0, .slice none 0 0, .int .i64 0, .int .i64 0, e]⟩, []⟩ := by
  refine R28 ?_
  simp [x28, st_one, hg, hlo, putL]
/-- The out list grows by an item, and what is held goes. -/
theorem Rep.more {m m' : Mem} {o : Nat} {s : Sp} {hv ov ov' : Value} {els : List (List Value)} (h : Rep m o s hv ov els) {it : It} {e : List Value} (hi : ItemAt m .nilFunc it e) (ho : Own m' ov' 2 (els ++ [e])) (hk : Kept m ov m') (st : Int) :
    Rep (m'.set o ⟨0, [.int .i64 st, .slice none 0 0, .int .i64 0, .int .i64 0, ov']⟩) o ⟨st, [], 0, 0, s.out ++ [it]⟩ (.slice none 0 0) ov' (els ++ [e]) := by
  have hlt' : o < m'.next := Nat.lt_of_lt_of_le h.lt hk.next
  have hlo' : m'.lo = o := by rw [hk.lo]; exact h.lo
  have hov : ∀ q r, m.get q = some r → r.sz ≠ 2 → ∀ n c, ov ≠ .slice (some ⟨q, 0, none⟩) n c := fun q r hq hr n c he => by
    have := h.out.row he
    rw [hq] at this
    cases this
    exact hr rfl
  have hno : m'.get o = m.get o := hk.get o h.lt (hov o _ h.row (by simp))
  have hov2 : ∀ n c, ov' ≠ .slice (some ⟨o, 0, none⟩) n c := fun n c he => by
    have := ho.row he
    rw [hno, h.row] at this
    cases this
  have hit : ∀ it e hv, ItemAt m hv it e → ItemAt (m'.set o ⟨0, [.int .i64 st, .slice none 0 0, .int .i64 0, .int .i64 0, ov']⟩) (.slice none 0 0) it e := by
    rintro it e hv ⟨v, rfl, hv2⟩
    refine ⟨v, rfl, ?_⟩
    rcases hv2 with hh | ⟨q, c, h1, h2, h3, h4, h5⟩
    · exact .inl hh
    · have hqo : q ≠ o := fun e => by subst e; rw [h.row] at h2; cases h2
      refine .inr ⟨q, c, h1, ?_, by simpa [hk.lo] using h3, by simp; exact Nat.lt_of_lt_of_le h4 hk.next, fun _ _ e => by cases e⟩
      rw [Mem.get_set, if_neg hqo, hk.get q h4 (hov q _ h2 (by simp))]
      exact h2
  refine ⟨by simp, by simpa using hlo', by simpa using hlt', Own.nil (by simpa using ho.lo), ho.set hov2, by simp [h.len], fun i e' it' he hit' => ?_⟩
  by_cases hil : i < els.length
  · rw [List.getElem?_append_left hil] at he
    rw [List.getElem?_append_left (by rw [← h.len]; exact hil)] at hit'
    exact hit _ _ _ (h.items i e' it' he hit')
  · rw [List.getElem?_append_right (by omega)] at he
    rw [List.getElem?_append_right (by rw [← h.len]; omega), ← h.len] at hit'
    obtain ⟨hz, _⟩ : i - els.length = 0 ∧ True := by
      have := (List.getElem?_eq_some_iff.1 he).1
      simp at this
      exact ⟨by omega, trivial⟩
    rw [hz] at he hit'
    simp at he hit'
    subst he hit'
    exact hit _ _ _ hi
theorem bad_V {m : Mem} {o : Nat} {s : Sp} {hv ov : Value} {els : List (List Value)} (h : Rep m o s hv ov els) (hb : s.out.length < 100000000) (c : Nat) : ∃ m' ov' els', LV CV (.call 27) [.pointer (some ⟨o, 0, none⟩), .int .u8 c] m [] = some ⟨.ret, [.tuple #[]], m', []⟩ ∧ Rep m' o (s.bad c) (.slice none 0 0) ov' els' := by
  have hlen := h.len
  obtain ⟨v', m1, e1, o1, k1⟩ := h.out.app1 (tt := true) (x := [.bool true, .slice none 0 0]) rfl (b := 32) (by omega) (by omega)
  have hov : ∀ n c, ov ≠ .slice (some ⟨o, 0, none⟩) n c := fun n c he => by
    have := h.out.row he
    rw [h.row] at this; cases this
  have hg1 : m1.get o = some ⟨0, [.int .i64 s.st, hv, .int .i64 s.n, .int .i64 s.want, ov]⟩ := (k1.get o h.lt hov).trans h.row
  have hlo1 : m1.lo ≤ o := by rw [k1.lo]; exact Nat.le_of_eq h.lo
  have hr : ∀ st, Rep (m1.set o ⟨0, [.int .i64 st, .slice none 0 0, .int .i64 0, .int .i64 0, v']⟩) o ⟨st, [], 0, 0, s.out ++ [⟨true, []⟩]⟩ (.slice none 0 0) v' (els ++ [[.bool true, .slice none 0 0]]) := fun st => h.more ⟨.slice none 0 0, rfl, .inl ⟨.inl rfl, rfl⟩⟩ o1 k1 st
  have hbg := begin_V (m := m1.set o ⟨0, [.int .i64 s.st, hv, .int .i64 s.n, .int .i64 s.want, v']⟩) (o := o) (a := .int .i64 s.st) (b := hv) (c := .int .i64 s.n) (d := .int .i64 s.want) (e := v') (by simp) (by simpa using hlo1)
  simp only [Mem.set_set] at hbg
  have hsg := o1.single
  have hst : m1.st o 4 [v'] = some (m1.set o ⟨0, [.int .i64 s.st, hv, .int .i64 s.n, .int .i64 s.want, v']⟩) := by
    rw [st_some hg1 hlo1 (by simp)]; simp [putL]
  have hbu : aBuild [(0, 1), (1, 1)] [Value.bool false, Value.slice none 0 0] [(0, Value.bool true)] = some (.agg #[.bool true, .slice none 0 0]) := rfl
  have hli : vLit 2 1 [Value.bool false, Value.slice none 0 0] [(0, .agg #[.bool true, .slice none 0 0])] m = some (fz 2 true [[.bool true, .slice none 0 0]], m) := rfl
  have hst4 : aSt 1 (Value.pointer (some ⟨o, 4, none⟩)) v' m1 = some (m1.set o ⟨0, [.int .i64 s.st, hv, .int .i64 s.n, .int .i64 s.want, v']⟩) := by
    obtain ⟨q1, q2⟩ := hsg
    have q3 : v'.cells.size = 1 := by rw [← Array.length_toList, q2]; rfl
    simp only [aSt, addr?, Option.bind_some, q1, q3, and_self, if_true, q2]
    exact hst
  by_cases hc : (c : Int) = 10
  · refine ⟨_, v', _, R27 ?_, by unfold Sp.bad Sp.begin; rw [if_pos hc]; exact hr 0⟩
    simp [x27, h.row, hbu, hli, e1, hst4, hbg, hc]
  · refine ⟨_, v', _, R27 ?_, by unfold Sp.bad Sp.begin; rw [if_neg hc]; exact hr 2⟩
    simp [x27, h.row, hbu, hli, e1, hst4, hbg, hc, st_one, hlo1, putL]
/-- A field of the splitter is set. -/
theorem Rep.field {m : Mem} {o : Nat} {s : Sp} {hv ov : Value} {els : List (List Value)} (h : Rep m o s hv ov els) (st n want : Int) :
    Rep (m.set o ⟨0, [.int .i64 st, hv, .int .i64 n, .int .i64 want, ov]⟩) o ⟨st, s.held, n, want, s.out⟩ hv ov els := by
  have hh : ∀ n c, hv ≠ .slice (some ⟨o, 0, none⟩) n c := fun n c he => by
    have := h.held.row he
    rw [h.row] at this; cases this
  have ho : ∀ n c, ov ≠ .slice (some ⟨o, 0, none⟩) n c := fun n c he => by
    have := h.out.row he
    rw [h.row] at this; cases this
  refine ⟨by simp, by simpa using h.lo, by simpa using h.lt, h.held.set hh, h.out.set ho, h.len, fun i e it he hi => ?_⟩
  obtain ⟨v, rfl, hv2⟩ := h.items i e it he hi
  refine ⟨v, rfl, ?_⟩
  rcases hv2 with hq | ⟨q, c, h1, h2, h3, h4, h5⟩
  · exact .inl hq
  · have hqo : q ≠ o := fun e => by subst e; rw [h.row] at h2; cases h2
    exact .inr ⟨q, c, h1, by rw [Mem.get_set, if_neg hqo]; exact h2, by simpa using h3, by simpa using h4, h5⟩
theorem pass_V {m : Mem} {o : Nat} {s : Sp} {hv ov : Value} {els : List (List Value)} (h : Rep m o s hv ov els) (c : Nat) : ∃ m' hv', LV CV (.call 21) [.pointer (some ⟨o, 0, none⟩), .int .u8 c] m [] = some ⟨.ret, [.tuple #[]], m', []⟩ ∧ Rep m' o (s.pass c) hv' ov els := by
  by_cases hc : (c : Int) = 10
  · have hb := begin_V h.row (Nat.le_of_eq h.lo)
    have h3 : Rep (m.set o ⟨0, [.int .i64 0, .slice none 0 0, .int .i64 0, .int .i64 0, ov]⟩) o s.begin (.slice none 0 0) ov els := by
      refine ⟨by simp [Sp.begin], by simpa using h.lo, by simpa using h.lt, Own.nil (by simpa using h.held.lo), ?_, h.len, fun i e it he hi => ?_⟩
      · refine h.out.set fun n c he => ?_
        have := h.out.row he
        rw [h.row] at this; cases this
      · obtain ⟨v, rfl, hv2⟩ := h.items i e it he hi
        refine ⟨v, rfl, ?_⟩
        rcases hv2 with hq | ⟨q, c, h1, h2, h3, h4, h5⟩
        · exact .inl hq
        · have hqo : q ≠ o := fun e => by subst e; rw [h.row] at h2; cases h2
          exact .inr ⟨q, c, h1, by rw [Mem.get_set, if_neg hqo]; exact h2, by simpa using h3, by simpa using h4, fun _ _ e => by cases e⟩
    refine ⟨_, _, R21 ?_, (show s.pass c = s.begin from if_pos hc) ▸ h3⟩
    simp [x21, hc, hb]
  · refine ⟨_, _, R21 ?_, (show s.pass c = s from if_neg hc) ▸ h⟩
    simp [x21, hc]
/-- A byte more is held. -/
theorem Rep.hold {m : Mem} {o : Nat} {s : Sp} {hv ov : Value} {els : List (List Value)} (h : Rep m o s hv ov els) (hb : s.held.length < 100000000) (c : Int) : ∃ hv' m', vApp false 1 1 hv (fz 1 true [[.int .u8 c]]) m = some (hv', m') ∧ single hv' ∧ m'.get o = m.get o ∧ m'.lo = m.lo ∧
    ∀ st n want, Rep (m'.set o ⟨0, [.int .i64 st, hv', .int .i64 n, .int .i64 want, ov]⟩) o ⟨st, s.held ++ [c], n, want, s.out⟩ hv' ov els := by
  obtain ⟨hv', m', e1, o1, k1, nn, cc, hnew⟩ := h.held.apps (str := false) (y := fz 1 true [[.int .u8 c]]) (xs := [[.int .u8 c]]) (l := [.int .u8 c]) (by simp [vSrc]) rfl (by simp) (by simp) (b := 1) (by simp; omega) (by simp; omega)
  have hh : ∀ q r, m.get q = some r → r.sz ≠ 1 → ∀ n c, hv ≠ .slice (some ⟨q, 0, none⟩) n c := fun q r hq hr n c he => by
    have := h.held.row he
    rw [hq] at this; cases this; exact hr rfl
  have hgo : m'.get o = m.get o := k1.get o h.lt (hh o _ h.row (by simp))
  have hlt : o < m'.next := Nat.lt_of_lt_of_le h.lt k1.next
  have ho1 : ∀ n c, hv' ≠ .slice (some ⟨o, 0, none⟩) n c := fun n c he => by
    rw [hnew] at he
    have := h.lt
    cases he
    omega
  have hov : ∀ n c, ov ≠ .slice (some ⟨o, 0, none⟩) n c := fun n c he => by
    have := h.out.row he
    rw [h.row] at this; cases this
  have hout : Own m' ov 2 els := by
    refine ⟨by rw [k1.lo]; exact Nat.le_trans h.out.lo k1.next, h.out.lens, ?_⟩
    rcases h.out.at_ with hq | ⟨q, c, h1, h2, h3, h4, h5, h6⟩
    · exact .inl hq
    · exact .inr ⟨q, c, h1, h2, h3, by rw [k1.get q h6 (hh q _ h4 (by simp))]; exact h4, by rw [k1.lo]; exact h5, Nat.lt_of_lt_of_le h6 k1.next⟩
  refine ⟨hv', m', e1, o1.single, hgo, k1.lo, fun st n want => ⟨by simp, by simpa [k1.lo] using h.lo, by simpa using hlt, ?_, hout.set hov, h.len, fun i e it he hi => ?_⟩⟩
  · have := o1.set (r := ⟨0, [.int .i64 st, hv', .int .i64 n, .int .i64 want, ov]⟩) ho1
    simpa using this
  · obtain ⟨v, rfl, hv2⟩ := h.items i e it he hi
    refine ⟨v, rfl, ?_⟩
    rcases hv2 with hq | ⟨q, c, h1, h2, h3, h4, h5⟩
    · exact .inl hq
    · have hqo : q ≠ o := fun e => by subst e; rw [h.row] at h2; cases h2
      refine .inr ⟨q, c, h1, by rw [Mem.get_set, if_neg hqo, k1.get q h4 h5]; exact h2, by simpa [k1.lo] using h3, by simp; exact Nat.lt_of_lt_of_le h4 k1.next, fun n c he => ?_⟩
      rw [hnew] at he
      cases he
      omega
end Go.Proofs.YthihiidooomdnaaDoor.D

namespace Go.Proofs.YthihiidooomdnaaDoor.D
open Go.RowKit
set_option linter.unusedVariables false
set_option linter.unusedSimpArgs false
theorem digit_V {m : Mem} {o : Nat} {s : Sp} {hv ov : Value} {els : List (List Value)} (h : Rep m o s hv ov els) (hok : s.Ok) (hst : s.st = 0) (hb : s.out.length < 100000000) {c : Nat} (hc : c < 256) :
    ∃ m' hv' ov' els', LV CV (.call 22) [.pointer (some ⟨o, 0, none⟩), .int .u8 c] m [] = some ⟨.ret, [.tuple #[]], m', []⟩ ∧ Rep m' o (s.digit c) hv' ov' els' := by
  obtain ⟨n0, hl5, hnl⟩ := hok.d hst
  have hn := hok.n_le hst
  obtain ⟨mb, ovb, elb, eb1, rb⟩ := bad_V h hb c
  obtain ⟨hv1, m1, a1, a2, a3, a4, a5⟩ := h.hold (by omega) c
  have hlen := h.held.len
  rw [List.length_map] at hlen
  have hfl : ∀ st n want, Rep (m.set o ⟨0, [.int .i64 st, hv, .int .i64 n, .int .i64 want, ov]⟩) o ⟨st, s.held, n, want, s.out⟩ hv ov els := h.field
  unfold Sp.digit
  by_cases h1 : (48 : Int) ≤ c ∧ (c : Int) ≤ 57
  · rw [if_pos h1]
    obtain ⟨h48, h57⟩ := h1
    by_cases h5 : s.held.length = 5
    · rw [if_pos (.inl h5)]
      refine ⟨mb, _, ovb, elb, R22 ?_, rb⟩
      have h5' : (s.held.length : Int) = 5 := by omega
      simp [x22, h.row, hlen, h48, h57, h5, eb1]
    · by_cases h6 : 0 < s.held.length ∧ s.n = 0
      · rw [if_pos (.inr h6)]
        refine ⟨mb, _, ovb, elb, R22 ?_, rb⟩
        have h5' : ¬ (s.held.length : Int) = 5 := by omega
        have h7 : (0 : Int) < s.held.length := by omega
        simp [x22, h.row, hlen, h48, h57, h5', h5, h7, h6, eb1]
      · rw [if_neg (by omega)]
        have hr := h.field s.st (s.n * 10 + ((c : Int) - 48)) s.want
        obtain ⟨hv1, m1, a1, a2, a3, a4, a5⟩ := hr.hold (by show s.held.length < _; omega) c
        have w1 : IntKind.wrap .i64 (s.n * 10) = s.n * 10 := wrap_i64 (by omega) (by omega)
        have w2 : IntKind.wrap .u8 ((c : Int) - 48) = (c : Int) - 48 := wrap_u8 (by omega) (by omega)
        have w3 : IntKind.wrap .i64 ((c : Int) - 48) = (c : Int) - 48 := wrap_i64 (by omega) (by omega)
        have w4 : IntKind.wrap .i64 (s.n * 10 + ((c : Int) - 48)) = s.n * 10 + ((c : Int) - 48) := wrap_i64 (by omega) (by omega)
        have hst1 : m1.st o 1 [hv1] = some (m1.set o ⟨0, [.int .i64 s.st, hv1, .int .i64 (s.n * 10 + ((c : Int) - 48)), .int .i64 s.want, ov]⟩) := by
          rw [st_some (a3.trans hr.row) (by rw [a4]; exact Nat.le_of_eq h.lo) (by simp)]; simp [putL]
        have hst0 : m.st o 2 [.int .i64 (s.n * 10 + ((c : Int) - 48))] = some (m.set o ⟨0, [.int .i64 s.st, hv, .int .i64 (s.n * 10 + ((c : Int) - 48)), .int .i64 s.want, ov]⟩) := by
          rw [st_some h.row (Nat.le_of_eq h.lo) (by simp)]; simp [putL]
        refine ⟨_, hv1, ov, els, R22 ?_, a5 s.st _ s.want⟩
        have h5' : ¬ (s.held.length : Int) = 5 := by omega
        by_cases h7 : (0 : Int) < s.held.length
        · have h8 : ¬ s.n = 0 := by omega
          simp [x22, h.row, hlen, h48, h57, h5', h5, h7, h8, w1, w2, w3, w4, hst0, a1, a2, hst1]
        · have h7n : ¬ 0 < s.held.length := by omega
          simp [x22, h.row, hlen, h48, h57, h5', h5, h7, h7n, w1, w2, w3, w4, hst0, a1, a2, hst1]
  · rw [if_neg h1]
    have hbr : ∀ (P : Prop) [Decidable P], True := fun _ _ => trivial
    by_cases h2 : (c : Int) ≠ 58 ∨ s.held.length = 0 ∨ 20000 < s.n
    · rw [if_pos h2]
      refine ⟨mb, _, ovb, elb, R22 ?_, rb⟩
      by_cases h48 : (48 : Int) ≤ c
      · have h57 : ¬ (c : Int) ≤ 57 := fun e => h1 ⟨h48, e⟩
        by_cases g1 : (c : Int) = 58
        · obtain rfl : c = 58 := by omega
          rw [show ((58 : Nat) : Int) = 58 from rfl] at eb1
          by_cases g2 : s.held.length = 0
          · simp [x22, h.row, hlen, h48, h57, g1, g2, eb1]
          · have g3 : 20000 < s.n := by rcases h2 with h2 | h2 | h2; exact absurd g1 h2; exact absurd h2 g2; exact h2
            simp [x22, h.row, hlen, h48, h57, g1, g2, g3, eb1]
        · simp [x22, h.row, hlen, h48, h57, g1, eb1]
      · have g1 : ¬ (c : Int) = 58 := by omega
        simp [x22, h.row, hlen, h48, g1, eb1]
    · rw [if_neg h2]
      simp only [not_or, Decidable.not_not] at h2
      obtain ⟨g1, g2, g3⟩ := h2
      obtain rfl : c = 58 := by omega
      have hr := h.field 1 s.n s.n
      obtain ⟨hv1, m1, a1, a2, a3, a4, a5⟩ := hr.hold (by show s.held.length < _; omega) 58
      have hst1 : m1.st o 1 [hv1] = some (m1.set o ⟨0, [.int .i64 1, hv1, .int .i64 s.n, .int .i64 s.n, ov]⟩) := by
        rw [st_some (a3.trans hr.row) (by rw [a4]; exact Nat.le_of_eq h.lo) (by simp)]; simp [putL]
      have hst0 : m.st o 0 [.int .i64 1] = some (m.set o ⟨0, [.int .i64 1, hv, .int .i64 s.n, .int .i64 s.want, ov]⟩) := by
        rw [st_some h.row (Nat.le_of_eq h.lo) (by simp)]; simp [putL]
      have hst3 : (m.set o ⟨0, [.int .i64 1, hv, .int .i64 s.n, .int .i64 s.want, ov]⟩).st o 3 [.int .i64 s.n] = some (m.set o ⟨0, [.int .i64 1, hv, .int .i64 s.n, .int .i64 s.n, ov]⟩) := by
        rw [st_some (r := ⟨0, [.int .i64 1, hv, .int .i64 s.n, .int .i64 s.want, ov]⟩) (by simp) (by simpa using Nat.le_of_eq h.lo) (by simp)]; simp [putL]
      refine ⟨_, hv1, ov, els, R22 ?_, a5 1 s.n s.n⟩
      have g3' : ¬ 20000 < s.n := g3
      simp [x22, h.row, hlen, g2, g3', hst0, hst3, a1, a2, hst1]
end Go.Proofs.YthihiidooomdnaaDoor.D

namespace Go.Proofs.YthihiidooomdnaaDoor.D
open Go.RowKit
set_option linter.unusedVariables false
set_option linter.unusedSimpArgs false
theorem take_V {m : Mem} {o : Nat} {s : Sp} {hv ov : Value} {els : List (List Value)} (h : Rep m o s hv ov els) : LV CV (.call 17) [.pointer (some ⟨o, 0, none⟩)] m [] = some ⟨.ret, [.func (.func (if s.st = 1 then 20 else if s.st = 2 then 21 else 22)) #[.pointer (some ⟨o, 0, none⟩)] #[]], m, []⟩ := by
  refine R17 ?_
  by_cases h1 : s.st = 1
  · simp [x17, h.row, h1, letK]
  · by_cases h2 : s.st = 2
    · simp [x17, h.row, h1, h2, letK]
    · simp [x17, h.row, h1, h2, letK]
/-- A copy of what lies in a row; nothing that was there is touched. -/
theorem clone_V {m : Mem} {q off n c : Nat} {cells : List Value} (hg : m.get q = some ⟨1, cells⟩) (hl : off + n ≤ cells.length) (hn : n < 100000000) (hlo : m.lo ≤ m.next) :
    LV CV (.call 18) [.slice (some ⟨q, off, none⟩) n c] m [] = some ⟨.ret, [if n = 0 then fz 1 true [] else .slice (some ⟨m.next, 0, none⟩) n (n + 1)], if n = 0 then m else m.push ⟨1, (cells.drop off).take n⟩, []⟩ := by
  refine R18 ?_
  have hat : m.at_ q off n = some ((cells.drop off).take n) := by
    simp only [Mem.at_, hg, Option.bind_some]
    rw [if_pos hl]
  have hli : vLit 1 0 [Value.int .u8 0] [] m = some (fz 1 true [], m) := rfl
  have hap : vApp false 1 1 (fz 1 true []) (.slice (some ⟨q, off, none⟩) n c) m = some (if n = 0 then fz 1 true [] else .slice (some ⟨m.next, 0, none⟩) n (n + 1), if n = 0 then m else m.push ⟨1, (cells.drop off).take n⟩) := by
    have hs : vSrc false 1 (.slice (some ⟨q, off, none⟩) n c) m = some (n, (cells.drop off).take n) := by simp [vSrc, aSrc, hat]
    unfold vApp
    rw [hs]
    simp only [Option.bind_some, fz?_fz]
    by_cases h0 : n = 0
    · simp [h0]
    · have h1 : n ≤ 274877906944 := by omega
      have h2 : n ≤ 1099511627776 := by omega
      simp [h0, h1, h2]
  simp [x18, hli, hap]
end Go.Proofs.YthihiidooomdnaaDoor.D

namespace Go.Proofs.YthihiidooomdnaaDoor.D
open Go.RowKit
set_option linter.unusedVariables false
set_option linter.unusedSimpArgs false
theorem Own.grow {m m' : Mem} {v : Value} {sz : Nat} {els : List (List Value)} (h : Own m v sz els) (g : Grown m m') : Own m' v sz els := by
  refine ⟨by rw [g.lo]; exact Nat.le_trans h.lo g.next, h.lens, ?_⟩
  rcases h.at_ with hh | ⟨q, c, h1, h2, h3, h4, h5, h6⟩
  · exact .inl hh
  · exact .inr ⟨q, c, h1, h2, h3, (g.get q h6).trans h4, by rw [g.lo]; exact h5, Nat.lt_of_lt_of_le h6 g.next⟩
theorem Rep.grow {m m' : Mem} {o : Nat} {s : Sp} {hv ov : Value} {els : List (List Value)} (h : Rep m o s hv ov els) (g : Grown m m') : Rep m' o s hv ov els := by
  refine ⟨(g.get o h.lt).trans h.row, by rw [g.lo]; exact h.lo, Nat.lt_of_lt_of_le h.lt g.next, h.held.grow g, h.out.grow g, h.len, fun i e it he hi => ?_⟩
  obtain ⟨v, rfl, hv2⟩ := h.items i e it he hi
  refine ⟨v, rfl, ?_⟩
  rcases hv2 with hq | ⟨q, c, h1, h2, h3, h4, h5⟩
  · exact .inl hq
  · exact .inr ⟨q, c, h1, (g.get q h4).trans h2, by rw [g.lo]; exact h3, Nat.lt_of_lt_of_le h4 g.next, h5⟩
/-- An item goes behind the others, and a frame begins. -/
theorem item_V {m : Mem} {o : Nat} {s : Sp} {hv ov y : Value} {els : List (List Value)} (h : Rep m o s hv ov els) (hb : s.out.length < 100000000) {it : It} {e : List Value} (hi : ItemAt m .nilFunc it e) (he : e.length = 2) (hs : vSrc false 2 y m = some (1, e)) :
    ∃ v' m1, vApp false 2 32 ov y m = some (v', m1) ∧ aSt 1 (.pointer (some ⟨o, 4, none⟩)) v' m1 = some (m1.set o ⟨0, [.int .i64 s.st, hv, .int .i64 s.n, .int .i64 s.want, v']⟩) ∧
      LV CV (.call 28) [.pointer (some ⟨o, 0, none⟩)] (m1.set o ⟨0, [.int .i64 s.st, hv, .int .i64 s.n, .int .i64 s.want, v']⟩) [] = some ⟨.ret, [.tuple #[]], m1.set o ⟨0, [.int .i64 0, .slice none 0 0, .int .i64 0, .int .i64 0, v']⟩, []⟩ ∧
      Rep (m1.set o ⟨0, [.int .i64 0, .slice none 0 0, .int .i64 0, .int .i64 0, v']⟩) o (Sp.begin { s with out := s.out ++ [it] }) (.slice none 0 0) v' (els ++ [e]) := by
  have hlen := h.len
  obtain ⟨v', m1, e1, o1, k1, _⟩ := h.out.apps (str := false) (y := y) (xs := [e]) (l := e) hs (by simp) (by simpa using he) (by simp) (b := 32) (by simp; omega) (by simp; omega)
  have hov : ∀ n c, ov ≠ .slice (some ⟨o, 0, none⟩) n c := fun n c he => by
    have := h.out.row he
    rw [h.row] at this; cases this
  have hg1 : m1.get o = some ⟨0, [.int .i64 s.st, hv, .int .i64 s.n, .int .i64 s.want, ov]⟩ := (k1.get o h.lt hov).trans h.row
  have hlo1 : m1.lo ≤ o := by rw [k1.lo]; exact Nat.le_of_eq h.lo
  have hbg := begin_V (m := m1.set o ⟨0, [.int .i64 s.st, hv, .int .i64 s.n, .int .i64 s.want, v']⟩) (o := o) (a := .int .i64 s.st) (b := hv) (c := .int .i64 s.n) (d := .int .i64 s.want) (e := v') (by simp) (by simpa using hlo1)
  simp only [Mem.set_set] at hbg
  refine ⟨v', m1, e1, ?_, hbg, h.more hi o1 k1 0⟩
  rw [aSt_one o1.single, st_some hg1 hlo1 (by simp)]; simp [putL]
theorem byte_V {m : Mem} {o : Nat} {s : Sp} {hv ov : Value} {els : List (List Value)} (h : Rep m o s hv ov els) (hok : s.Ok) (hst : s.st = 1) (hb : s.out.length < 100000000) {c : Nat} (hc : c < 256) :
    ∃ m' hv' ov' els', LV CV (.call 20) [.pointer (some ⟨o, 0, none⟩), .int .u8 c] m [] = some ⟨.ret, [.tuple #[]], m', []⟩ ∧ Rep m' o (s.byte c) hv' ov' els' := by
  obtain ⟨n0, w0, nl, hl⟩ := hok.b hst
  have hlen := h.held.len
  rw [List.length_map] at hlen
  unfold Sp.byte
  by_cases h1 : 0 < s.want
  · rw [if_pos h1]
    have hr := h.field s.st s.n (s.want - 1)
    obtain ⟨hv1, m1, a1, a2, a3, a4, a5⟩ := hr.hold (by show s.held.length < _; omega) c
    have w1 : IntKind.wrap .i64 (s.want - 1) = s.want - 1 := wrap_i64 (by omega) (by omega)
    have hst1 : m1.st o 1 [hv1] = some (m1.set o ⟨0, [.int .i64 s.st, hv1, .int .i64 s.n, .int .i64 (s.want - 1), ov]⟩) := by
      rw [st_some (a3.trans hr.row) (by rw [a4]; exact Nat.le_of_eq h.lo) (by simp)]; simp [putL]
    have hst0 : m.st o 3 [.int .i64 (s.want - 1)] = some (m.set o ⟨0, [.int .i64 s.st, hv, .int .i64 s.n, .int .i64 (s.want - 1), ov]⟩) := by
      rw [st_some h.row (Nat.le_of_eq h.lo) (by simp)]; simp [putL]
    refine ⟨_, hv1, ov, els, R20 ?_, a5 s.st s.n (s.want - 1)⟩
    simp [x20, h.row, h1, w1, hst0, a1, a2, hst1]
  · rw [if_neg h1]
    by_cases h2 : (c : Int) ≠ 10
    · rw [if_pos h2]
      obtain ⟨mb, ovb, elb, eb1, rb⟩ := bad_V h hb c
      refine ⟨mb, _, ovb, elb, R20 ?_, rb⟩
      simp [x20, h.row, h1, h2, eb1]
    · rw [if_neg h2]
      have h2' : (c : Int) = 10 := Decidable.not_not.1 h2
      obtain rfl : c = 10 := by omega
      have hz : s.want = 0 := by omega
      have hbu : ∀ v, single v → aBuild [(0, 1), (1, 1)] [Value.bool false, Value.slice none 0 0] [(1, v)] = some (.agg #[.bool false, v]) := fun v hv => by
        obtain ⟨q1, q2⟩ := hv
        have q3 : v.cells.size = 1 := by rw [← Array.length_toList, q2]; rfl
        simp [aBuild, fillL, q1, q2, q3, putL]
      rcases h.held.at_ with ⟨rfl, hnil⟩ | ⟨q, cc, hne, rfl, hcc, hg, hlo, hlt⟩
      · have hh : s.held = [] := by simpa using hnil
        have hn : s.n = 0 := by rw [hh] at nl; simp at nl; omega
        have hcl : LV CV (.call 18) [.slice none 0 0] (m.floor m.next) [] = some ⟨.ret, [.slice none 0 0], m.floor m.next, []⟩ := by
          refine R18 ?_
          simp [x18]
        have hli : vLit 2 1 [Value.bool false, Value.slice none 0 0] [(0, .agg #[.bool false, .slice none 0 0])] m = some (fz 2 true [[.bool false, .slice none 0 0]], m) := rfl
        obtain ⟨v', m1, e1, e2, e3, e4⟩ := item_V h hb (it := ⟨false, []⟩) (e := [.bool false, .slice none 0 0]) (y := fz 2 true [[.bool false, .slice none 0 0]]) ⟨.slice none 0 0, rfl, .inl ⟨.inl rfl, rfl⟩⟩ rfl (by simp [vSrc])
        have e5 : ([] : List Int) = s.held.drop (s.held.length - s.n.toNat) := by rw [hh]; simp
        rw [hn, hz] at e2 e3
        refine ⟨_, _, v', _, R20 ?_, e5 ▸ e4⟩
        have hcut : vCut 1 (.slice none 0 0) (some (.int .i64 0)) none m = some (.slice none 0 0) := rfl
        have k0 : IntKind.wrap .i64 0 = 0 := by decide
        have hfl : (m.floor m.next).floor m.lo = m := rfl
        have hb1 := hbu (.slice none 0 0) ⟨rfl, rfl⟩
        simp [x20, h.row, h1, hn, hz, hcut, k0, hcl, hfl, hb1, hli, e1, e2, e3]
      · have hL : (s.held.map fun n => [Value.int .u8 n]).length = s.held.length := by simp
        rw [hL] at hcc
        have hfl : (s.held.map fun n => [Value.int .u8 n]).flatten = s.held.map fun n => Value.int .u8 n := by
          induction s.held with
          | nil => rfl
          | cons d t ih => simp only [List.map_cons, List.flatten_cons, ih]; rfl
        rw [hfl] at hg
        obtain ⟨k, hk⟩ : ∃ k : Nat, s.n = k := ⟨s.n.toNat, by omega⟩
        have hkl : k ≤ s.held.length := by omega
        have hd : s.held.length - s.n.toNat = s.held.length - k := by rw [hk]; simp
        generalize hO : s.held.length - k = O at *
        have hvl : (Value.slice (some ⟨q, 0, none⟩) (s.held.map fun n => [Value.int .u8 n]).length cc) = .slice (some ⟨q, 0, none⟩) s.held.length cc := by rw [hL]
        have w1 : IntKind.wrap .i64 ((s.held.length : Int) - k) = (O : Int) := by rw [wrap_i64 (by omega) (by omega)]; omega
        have hcut : vCut 1 (.slice (some ⟨q, 0, none⟩) s.held.length cc) (some (.int .i64 (O : Int))) none m = some (.slice (some ⟨q, O, none⟩) k (k + 1)) := by
          have g1 : O ≤ s.held.length := by omega
          have g2 : s.held.length - O = k := by omega
          simp [vCut, aCut, hg, g1, g2, hcc]
        have hcl := clone_V (m := m.floor m.next) (q := q) (off := O) (n := k) (c := k + 1) (cells := s.held.map fun n => Value.int .u8 n) hg (by simp; omega) (by omega) (Nat.le_refl _)
        have k0 : IntKind.wrap .i64 0 = 0 := by decide
        rw [hd]
        by_cases hk0 : k = 0
        · subst hk0
          have w1b : IntKind.wrap .i64 (s.held.length : Int) = (O : Int) := by rw [wrap_i64 (by omega) (by omega)]; omega
          have hdr : s.held.drop O = [] := List.drop_of_length_le (by omega)
          have hli : vLit 2 1 [Value.bool false, Value.slice none 0 0] [(0, .agg #[.bool false, fz 1 true []])] m = some (fz 2 true [[.bool false, fz 1 true []]], m) := rfl
          obtain ⟨v', m1, e1, e2, e3, e4⟩ := item_V h hb (it := ⟨false, []⟩) (e := [.bool false, fz 1 true []]) (y := fz 2 true [[.bool false, fz 1 true []]]) ⟨fz 1 true [], rfl, .inl ⟨.inr rfl, rfl⟩⟩ rfl (by simp [vSrc])
          have hfl2 : (m.floor m.next).floor m.lo = m := rfl
          have hb1 := hbu (fz 1 true []) ⟨rfl, rfl⟩
          rw [if_pos rfl, if_pos rfl] at hcl
          try rw [hL] at e2
          try rw [hL] at e3
          rw [hk, hz] at e2 e3
          simp only [Int.natCast_zero, Int.cast_ofNat_Int] at e2 e3
          try rw [hL] at e4
          refine ⟨_, _, v', _, R20 ?_, (show ([] : List Int) = s.held.drop O from hdr.symm) ▸ e4⟩
          simp [x20, h.row, h1, hk, hz, w1b, hcut, hcl, hfl2, hb1, hli, e1, e2, e3]
        · rw [if_neg hk0, if_neg hk0] at hcl
          have hby : ((s.held.map fun n => Value.int .u8 n).drop O).take k = (s.held.drop O).map fun n => Value.int .u8 n := by
            rw [← List.map_drop, List.take_of_length_le (by simp; omega)]
          rw [hby] at hcl
          have hdl : (s.held.drop O).length = k := by simp; omega
          generalize hB : s.held.drop O = B at *
          have hli : vLit 2 1 [Value.bool false, Value.slice none 0 0] [(0, .agg #[.bool false, .slice (some ⟨m.next, 0, none⟩) k (k + 1)])] (m.push ⟨1, B.map fun n => Value.int .u8 n⟩) = some (.slice (some ⟨m.next + 1, 0, none⟩) 1 1, (m.push ⟨1, B.map fun n => Value.int .u8 n⟩).push ⟨2, [.bool false, .slice (some ⟨m.next, 0, none⟩) k (k + 1)]⟩) := rfl
          have hgr : Grown m ((m.push ⟨1, B.map fun n => Value.int .u8 n⟩).push ⟨2, [.bool false, .slice (some ⟨m.next, 0, none⟩) k (k + 1)]⟩) := ⟨rfl, rfl, by simp; omega, fun q hq => by rw [Mem.get_push, if_neg (by simp; omega), Mem.get_push, if_neg (by omega)]⟩
          have hlon : m.lo ≤ m.next := h.held.lo
          obtain ⟨v', m1, e1, e2, e3, e4⟩ := item_V (h.grow hgr) hb (it := ⟨false, B⟩) (e := [.bool false, .slice (some ⟨m.next, 0, none⟩) k (k + 1)]) (y := .slice (some ⟨m.next + 1, 0, none⟩) 1 1) ⟨_, rfl, .inr ⟨m.next, k + 1, by rw [hdl], by simp, hlon, by simp; omega, fun _ _ e => by cases e⟩⟩ rfl (by simp [vSrc, aSrc, Mem.at_])
          have hfl2 : ((m.floor m.next).push ⟨1, B.map fun n => Value.int .u8 n⟩).floor m.lo = m.push ⟨1, B.map fun n => Value.int .u8 n⟩ := rfl
          have hb1 := hbu (.slice (some ⟨m.next, 0, none⟩) k (k + 1)) ⟨rfl, rfl⟩
          try rw [hL] at e2
          try rw [hL] at e3
          rw [hk, hz] at e2 e3
          have hnx : (m.floor m.next).next = m.next := rfl
          rw [hnx] at hcl
          refine ⟨_, _, v', _, R20 ?_, e4⟩
          simp [x20, h.row, h1, hk, hz, w1, hcut, hcl, hfl2, hb1, hli, e1, e2, e3]
end Go.Proofs.YthihiidooomdnaaDoor.D
