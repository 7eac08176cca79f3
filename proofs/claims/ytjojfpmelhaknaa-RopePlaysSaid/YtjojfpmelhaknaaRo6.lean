/-
  Ropes: splices, and what the reference makes of them; a text's lines.
-/
import Derived.Test.YtjojfpmelhaknaaRo5
namespace Go.Proofs.Ytjojfpmelhaknaa.D
set_option linter.unusedVariables false
set_option linter.unusedSimpArgs false
/-- A splice of a text: what it answers, and the text. -/
def splP (s : List UInt8) (f g : Int) (x : List UInt8) : Int × List UInt8 :=
  if 0 ≤ f ∧ f ≤ g ∧ g ≤ s.length then (if 20000 < (x.length : Int) then (17, []) else if 20000 - (x.length : Int) < (s.length : Int) - (g - f) then (17, []) else (0, s.take f.toNat ++ x ++ s.drop g.toNat)) else (2, [])
theorem splP_len (s : List UInt8) (f g : Int) (x : List UInt8) (hs : s.length ≤ 20000) : (splP s f g x).2.length ≤ 20000 := by
  unfold splP
  split
  · split
    · simp
    · split
      · simp
      · simp; omega
  · simp
theorem inside_spec (t : Tr) (f g : Int) (m : Mem) : LV CV (.call 28) [t.enc, .int .i64 f, .int .i64 g] m [] = some ⟨.ret, [.bool (decide (0 ≤ f ∧ f ≤ g ∧ g ≤ t.len))], m, []⟩ := by
  refine R28 ?_
  by_cases h1 : 0 ≤ f
  · by_cases h2 : f ≤ g
    · simp [x28, h1, h2, len_spec]
    · simp [x28, h1, h2]
  · simp [x28, h1]
theorem splice_spec (t : Tr) (f g : Int) (x : List UInt8) (ho : t.Ok0) (hl : t.len ≤ 20000) (hx : x.length ≤ 1000000) :
    ∃ u : Tr, (∀ m, LV CV (.call 13) [t.enc, .int .i64 f, .int .i64 g, S x] m [] = some ⟨.ret, [.tuple [u.enc, .int .i64 (splP t.tx f g x).1].toArray], m, []⟩) ∧ u.Ok0 ∧ u.tx = (splP t.tx f g x).2 := by
  have hlen : (t.tx.length : Int) = t.len := by rw [Tr.tx_len]
  unfold splP
  rw [hlen]
  by_cases h1 : 0 ≤ f ∧ f ≤ g ∧ g ≤ t.len
  · rw [if_pos h1]
    by_cases h2 : 20000 < (x.length : Int)
    · rw [if_pos h2]
      refine ⟨.e, fun m => ?_, .inl rfl, rfl⟩
      refine R13 ?_
      simp [x13, inside_spec, h1, h2]
    · rw [if_neg h2]
      have w1 := wi (n := g - f) (by omega) (by omega)
      have w2 := wi (n := (t.len : Int) - (g - f)) (by omega) (by omega)
      have w3 := wi (n := 20000 - (x.length : Int)) (by omega) (by omega)
      by_cases h3 : 20000 - (x.length : Int) < (t.len : Int) - (g - f)
      · rw [if_pos h3]
        refine ⟨.e, fun m => ?_, .inl rfl, rfl⟩
        refine R13 ?_
        simp [x13, inside_spec, h1, h2, len_spec, w1, w2, w3, h3]
      · rw [if_neg h3]
        obtain ⟨a, b, a1, a2, a3, a4, a5⟩ := cut_spec t f ho (by omega) (by omega) (by omega)
        obtain ⟨c, d, b1, b2, b3, b4, b5⟩ := cut_spec t g ho (by omega) (by omega) (by omega)
        obtain ⟨u, c1, c2, c3⟩ := of_spec _ x (Nat.le_refl _) (by omega)
        have la := Tr.len_tx a4
        have ld := Tr.len_tx b5
        have lu := Tr.len_tx c3
        rw [List.length_take, Tr.tx_len] at la
        rw [List.length_drop, Tr.tx_len] at ld
        obtain ⟨v, d1, d2, d3⟩ := join_ok a2 c2 (by omega)
        have lv := Tr.len_tx d3
        rw [List.length_append, Tr.tx_len, Tr.tx_len] at lv
        obtain ⟨w, e1, e2, e3⟩ := join_ok d2 b3 (by omega)
        refine ⟨w, fun m => ?_, e2, by rw [e3, d3, a4, b5, c3]⟩
        refine R13 ?_
        simp [x13, inside_spec, h1, h2, len_spec, w1, w2, w3, h3, a1, b1, c1, d1, e1]
  · rw [if_neg h1]
    refine ⟨.e, fun m => ?_, .inl rfl, rfl⟩
    refine R13 ?_
    simp [x13, inside_spec, h1]
theorem refSplice_spec (s : List UInt8) (f g : Int) (x : List UInt8) (hl : s.length ≤ 20000) (hx : x.length ≤ 1000000) (m : Mem) :
    LV CV (.call 14) [S s, .int .i64 f, .int .i64 g, S x] m [] = some ⟨.ret, [.tuple [S (splP s f g x).2, .int .i64 (splP s f g x).1].toArray], m, []⟩ := by
  refine R14 ?_
  unfold splP
  by_cases h1 : 0 ≤ f ∧ f ≤ g ∧ g ≤ s.length
  · rw [if_pos h1]
    obtain ⟨g1, g2, g3⟩ := h1
    have k1 : ¬ f < 0 := by omega
    have k2 : ¬ g < f := by omega
    have k3 : ¬ (s.length : Int) < g := by omega
    by_cases h2 : 20000 < (x.length : Int)
    · rw [if_pos h2]
      simp [x14, k1, k2, k3, h2]
    · rw [if_neg h2]
      have w1 := wi (n := g - f) (by omega) (by omega)
      have w2 := wi (n := (s.length : Int) - (g - f)) (by omega) (by omega)
      have w3 := wi (n := 20000 - (x.length : Int)) (by omega) (by omega)
      by_cases h3 : 20000 - (x.length : Int) < (s.length : Int) - (g - f)
      · rw [if_pos h3]
        simp [x14, k1, k2, k3, h2, w1, w2, w3, h3]
      · rw [if_neg h3]
        have g4 : 0 ≤ g := by omega
        have g5 : f ≤ (s.length : Int) := by omega
        have hcat : (s.take f.toNat).length + x.length ≤ 4611686018427387904 := by simp; omega
        have hcat2 : (s.take f.toNat ++ x).length + (s.drop g.toNat).length ≤ 4611686018427387904 := by simp; omega
        simp only [x14, aBin_lss, aBin_gtr, k1, k2, k3, h2, w1, w2, w3, h3, decide_false, Option.bind_some, br_bool, Bool.false_eq_true, if_false, aLenS_S, aBin_sub, aCutStr_S, aHi_int', aLo_int', aHi_none, aLo_none, g1, g3, g4, g5, and_self, if_true, List.drop_zero, List.take_length, aBin_addS, if_pos hcat, if_pos hcat2]
        simp
  · rw [if_neg h1]
    by_cases k1 : f < 0
    · simp [x14, k1]
    · by_cases k2 : g < f
      · simp [x14, k1, k2]
      · have k3 : (s.length : Int) < g := by omega
        simp [x14, k1, k2, k3]
theorem make_spec (s : List UInt8) (hl : s.length ≤ 1000000) :
    ∃ t : Tr, (∀ m, LV CV (.call 11) [S s] m [] = some ⟨.ret, [.tuple [t.enc, .int .i64 (if 20000 < s.length then 17 else 0)].toArray], m, []⟩) ∧ t.Ok0 ∧ t.tx = if 20000 < s.length then [] else s := by
  by_cases h : 20000 < s.length
  · refine ⟨.e, fun m => ?_, .inl rfl, by rw [if_pos h]; rfl⟩
    refine R11 ?_
    have h' : (20000 : Int) < s.length := by omega
    simp [x11, h, h']
  · obtain ⟨t, a, b, c⟩ := of_spec _ s (Nat.le_refl _) (by omega)
    refine ⟨t, fun m => ?_, b, by rw [if_neg h]; exact c⟩
    refine R11 ?_
    have h' : ¬ (20000 : Int) < s.length := by omega
    simp [x11, h, h', a]
/-! ### A text's lines -/
def lns : List UInt8 → List UInt8 → List (List UInt8)
  | cur, [] => [cur]
  | cur, b :: t => if b = 10 then cur :: lns [] t else lns (cur ++ [b]) t
def linesP (s : List UInt8) : List (List UInt8) := lns [] s
theorem lns_len : ∀ (s cur : List UInt8), (lns cur s).length = Tr.cn s + 1 := by
  intro s
  induction s with
  | nil => intro cur; rfl
  | cons b t ih =>
    intro cur
    unfold lns
    split
    · subst_vars; simp [ih, Tr.cn]
    · rename_i h; rw [ih]; simp [Tr.cn, h]
theorem lns_le : ∀ (s cur : List UInt8), ∀ l ∈ lns cur s, l.length ≤ cur.length + s.length := by
  intro s
  induction s with
  | nil => intro cur l h; simp [lns] at h; subst h; simp
  | cons b t ih =>
    intro cur l h
    unfold lns at h
    split at h
    · rcases List.mem_cons.1 h with rfl | h
      · simp
      · have := ih [] l h; simp at this ⊢; omega
    · have := ih _ l h; simp at this ⊢; omega
theorem lns_app : ∀ (s cur : List UInt8), ∃ p, lns cur s = p ∧ p ≠ [] := fun s cur => ⟨_, rfl, fun h => by have := lns_len s cur; rw [h] at this; simp at this⟩
/-- The lines so far: none yet, or a row of its own. -/
def OwnS (m : Mem) (v : Value) (els : List (List UInt8)) : Prop := (v = fz 1 true [] ∧ els = [] ∧ m.lo ≤ m.next) ∨ Own m v 1 (els.map es)
theorem OwnS.app {m : Mem} {v : Value} {els : List (List UInt8)} (h : OwnS m v els) (x : List UInt8) (hn : els.length ≤ 100000) : ∃ v' m', vApp false 1 16 v (fz 1 true [[S x]]) m = some (v', m') ∧ Own m' v' 1 ((els ++ [x]).map es) ∧ m'.lo = m.lo := by
  rcases h with ⟨rfl, rfl, hl⟩ | h
  · refine ⟨.slice (some ⟨m.next, 0, none⟩) 1 2, m.push ⟨1, [S x]⟩, ?_, ⟨?_, rfl, fun e he => ?_, .inr ⟨m.next, 2, by simp, rfl, by simp, by simp [es], by simpa using hl, by simp⟩⟩, rfl⟩
    · simp [vApp, vSrc, unit]
    · simp only [Mem.lo_push, Mem.next_push]; omega
    · simp at he; subst he; rfl
  · obtain ⟨v', m', a, b, c⟩ := h.app1 (tt := true) (x := es x) rfl (b := 16) (by simp; omega) (by simp; omega)
    exact ⟨v', m', a, by simpa using b, c.lo⟩
theorem refLines_loop (s : List UInt8) (hs : s.length ≤ 100000) : ∀ (k i j : Nat) (els : List (List UInt8)) (v : Value) (m : Mem), i + k = s.length → j ≤ i → OwnS m v els → els.length ≤ i →
    ∃ v' m' els', ∃ c : Nat, LV CV (.loop 1700) [S s, v, .int .i64 j, .int .i64 i] m [] = some ⟨.exit 0, [S s, v', .int .i64 c, .int .i64 s.length], m', []⟩ ∧ OwnS m' v' els' ∧ m'.lo = m.lo ∧ c ≤ s.length ∧ els'.length ≤ s.length ∧ els' ++ [s.drop c] = els ++ lns ((s.take i).drop j) (s.drop i) := by
  intro k
  induction k with
  | zero =>
    intro i j els v m hi hj hv he
    obtain rfl : i = s.length := by omega
    refine ⟨v, m, els, j, ?_, hv, rfl, hj, he, by simp [lns]⟩
    refine Q1700 ?_
    simp [y1700]
  | succ k ih =>
    intro i j els v m hi hj hv he
    have hlt : i < s.length := by omega
    have hlt' : (i : Int) < s.length := by omega
    have w1 := wi (n := (i : Int) + 1) (by omega) (by omega)
    have hd : s.drop i = s[i] :: s.drop (i + 1) := List.drop_eq_getElem_cons hlt
    by_cases hb : s[i] = 10
    · obtain ⟨v1, m1, a1, a2, a3⟩ := hv.app ((s.take i).drop j) (by omega)
      obtain ⟨v', m', els', c, b1, b2, b3, b4, b5, b6⟩ := ih (i + 1) (i + 1) (els ++ [(s.take i).drop j]) v1 m1 (by omega) (Nat.le_refl _) (.inr a2) (by simp; omega)
      refine ⟨v', m', els', c, ?_, b2, by rw [b3, a3], b4, b5, ?_⟩
      · refine Q1700 ?_
        have e1 : (i : Int) ≤ s.length := by omega
        have e2 : (j : Int) ≤ i := by omega
        push_cast at b1
        simp [y1700, hlt, hlt', hb, e1, e2, Nat.min_eq_left (Nat.le_of_lt hlt), a1, w1, b1, hj]
      · rw [b6, hd]
        simp [lns, hb]
    · obtain ⟨v', m', els', c, b1, b2, b3, b4, b5, b6⟩ := ih (i + 1) j els v m (by omega) (by omega) hv (by omega)
      refine ⟨v', m', els', c, ?_, b2, b3, b4, b5, ?_⟩
      · refine Q1700 ?_
        have hb' : ¬ ((s[i].toNat : Int) = 10) := fun h => hb (by
          apply UInt8.toNat_inj.1
          have : (10 : UInt8).toNat = 10 := rfl
          omega)
        push_cast at b1
        simp [y1700, hlt, hlt', hb', w1, b1]
      · rw [b6, hd]
        have : (s.take (i + 1)).drop j = (s.take i).drop j ++ [s[i]] := by
          rw [List.take_succ_eq_append_getElem hlt, List.drop_append_of_le_length (by simp; omega)]
        simp [lns, hb, this]
theorem refLines_spec (s : List UInt8) (hs : s.length ≤ 100000) (m : Mem) : LV CV (.call 17) [S s] m [] = some ⟨.ret, [sq false false 1 ((linesP s).map es)], m, []⟩ := by
  refine R17 ?_
  have h0 : vLit 1 0 [(S [])] [] (⟨[], m.next, m.next, 0⟩ : Mem) = some (fz 1 true [], ⟨[], m.next, m.next, 0⟩) := by
    simp [vLit, unit, zerosL, fillL, chunk]
  obtain ⟨v', m', els', c, b1, b2, b3, b4, b5, b6⟩ := refLines_loop s hs s.length 0 0 [] (fz 1 true []) ⟨[], m.next, m.next, 0⟩ (by omega) (Nat.le_refl _) (.inl ⟨rfl, rfl, Nat.le_refl _⟩) (Nat.zero_le _)
  obtain ⟨v2, m2, c1, c2, c3⟩ := b2.app (s.drop c) (by omega)
  have hc : (c : Int) ≤ s.length := by omega
  have hls : els' ++ [s.drop c] = linesP s := by simpa [linesP] using b6
  rw [hls] at c2
  have hf := c2.frz (Cls.es _) (k := 17) (n0 := m.next) (by rw [c3, b3]; exact Nat.le_refl _)
  simp at b1
  simp [x17, h0, b1, b4, c1, hf]
end Go.Proofs.Ytjojfpmelhaknaa.D
