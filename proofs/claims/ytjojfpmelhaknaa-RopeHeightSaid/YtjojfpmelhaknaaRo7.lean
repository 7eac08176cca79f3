/-
  The statements RopePlays and RopeHeight, in the second reading.
-/
import Derived.Test.YtjojfpmelhaknaaRo6
namespace Go.Proofs.Ytjojfpmelhaknaa.D
set_option linter.unusedVariables false
set_option linter.unusedSimpArgs false
abbrev Ed : Type := Int × Int × List UInt8 × Unit
def ee (x : Ed) : List Value := [.int .i64 x.1, .int .i64 x.2.1, S x.2.2.1]
theorem ee0 (x : Ed) : (ee x)[0]? = some (.int .i64 x.1) := rfl
theorem ee1 (x : Ed) : (ee x)[1]? = some (.int .i64 x.2.1) := rfl
theorem ee2 (x : Ed) : (ee x)[2]? = some (S x.2.2.1) := rfl
theorem light_loop (nn : Bool) (l : List Ed) (h40 : l.length ≤ 40) (m : Mem) : ∀ (k i : Nat), i + k = l.length →
    ∃ w, (LV CV (.loop 900) [sq nn false 3 (l.map ee), .bool false, .int .i64 i] m [] = some ⟨.exit 0, w, m, []⟩ ∧ ∀ x ∈ l.drop i, x.2.2.1.length ≤ 20100) ∨
      (LV CV (.loop 900) [sq nn false 3 (l.map ee), .bool false, .int .i64 i] m [] = some ⟨.ret, w, m, []⟩ ∧ w[1]?.getD undef = .bool false ∧ ∃ x ∈ l.drop i, 20100 < x.2.2.1.length) := by
  intro k
  induction k with
  | zero =>
    intro i hi
    obtain rfl : i = l.length := by omega
    refine ⟨_, .inl ⟨Q900 (r := ⟨.exit 0, _, m, []⟩) (by simp [y900]; rfl), by simp⟩⟩
  | succ k ih =>
    intro i hi
    have hlt : i < l.length := by omega
    have hlt' : (i : Int) < l.length := by omega
    have w1 := wi (n := (i : Int) + 1) (by omega) (by omega)
    have hd : l.drop i = l[i] :: l.drop (i + 1) := List.drop_eq_getElem_cons hlt
    by_cases hb : (20100 : Int) < (l[i].2.2.1.length : Int)
    · refine ⟨[sq nn false 3 (l.map ee), .bool false, .int .i64 i], .inr ⟨Q900 ?_, rfl, l[i], by rw [hd]; exact List.mem_cons_self, by omega⟩⟩
      simp [y900, hlt, ee2, hb]
    · obtain ⟨w, hw⟩ := ih (i + 1) (by omega)
      refine ⟨w, ?_⟩
      rcases hw with ⟨a, b⟩ | ⟨a, b⟩
      · refine .inl ⟨Q900 ?_, fun x hx => ?_⟩
        · push_cast at a
          simp [y900, hlt, ee2, hb, w1, a]
        · rw [hd] at hx
          rcases List.mem_cons.1 hx with rfl | hx
          · omega
          · exact b x hx
      · refine .inr ⟨Q900 ?_, b.1, by obtain ⟨x, p, q⟩ := b.2; exact ⟨x, by rw [hd]; exact List.mem_cons_of_mem _ p, q⟩⟩
        push_cast at a
        simp [y900, hlt, ee2, hb, w1, a]
theorem light_spec (s : List UInt8) (nn : Bool) (l : List Ed) : ∃ b : Bool, (∀ m, LV CV (.call 9) [S s, sq nn false 3 (l.map ee)] m [] = some ⟨.ret, [.bool b], m, []⟩) ∧
    (b = true → s.length ≤ 20100 ∧ l.length ≤ 40 ∧ ∀ x ∈ l, x.2.2.1.length ≤ 20100) := by
  by_cases h1 : (20100 : Int) < s.length
  · refine ⟨false, fun m => ?_, fun h => by cases h⟩
    refine R9 ?_
    simp [x9, h1]
  · by_cases h2 : (40 : Int) < l.length
    · refine ⟨false, fun m => ?_, fun h => by cases h⟩
      refine R9 ?_
      simp [x9, h1, h2]
    · have hk := light_loop nn l (by omega)
      by_cases h3 : ∀ x ∈ l, x.2.2.1.length ≤ 20100
      · refine ⟨true, fun m => ?_, fun _ => ⟨by omega, by omega, h3⟩⟩
        obtain ⟨w, hw⟩ := hk ⟨[], m.next, m.next, 0⟩ l.length 0 (by omega)
        refine R9 ?_
        rcases hw with ⟨a, b⟩ | ⟨a, b⟩
        · simp at a
          simp [x9, h1, h2, a]
        · exfalso
          obtain ⟨_, x, p, q⟩ := b
          have := h3 x (by simpa using p)
          omega
      · refine ⟨false, fun m => ?_, fun h => by cases h⟩
        obtain ⟨w, hw⟩ := hk ⟨[], m.next, m.next, 0⟩ l.length 0 (by omega)
        refine R9 ?_
        rcases hw with ⟨a, b⟩ | ⟨a, b⟩
        · exact absurd (by simpa using b) h3
        · simp at a
          simp [x9, h1, h2, a, b.1]
theorem alive_spec (m : Mem) : LV CV (.call 10) [] m [] = some ⟨.ret, [.bool true], m, []⟩ := by
  rw [L_givenV (C := CV) (g := gkV (.pure gTrue)) rfl]
  rfl
theorem plays_loop (nn : Bool) (l : List Ed) (h40 : l.length ≤ 40) (hx : ∀ x ∈ l, x.2.2.1.length ≤ 20100) (m : Mem) : ∀ (k i : Nat) (t : Tr), i + k = l.length → t.Ok0 → t.len ≤ 20000 →
    ∃ w, LV CV (.loop 300) [S t.tx, sq nn false 3 (l.map ee), .bool false, t.enc, .int .i64 0, .int .i64 i] m [] = some ⟨.exit 0, w, m, []⟩ ∧ w[4]?.getD undef = .int .i64 0 := by
  intro k
  induction k with
  | zero =>
    intro i t hi ho hl
    obtain rfl : i = l.length := by omega
    exact ⟨_, Q300 (r := ⟨.exit 0, _, m, []⟩) (by simp [y300]; rfl), rfl⟩
  | succ k ih =>
    intro i t hi ho hl
    have hlt : i < l.length := by omega
    have w1 := wi (n := (i : Int) + 1) (by omega) (by omega)
    have hm : l[i] ∈ l := List.getElem_mem hlt
    have hxi := hx _ hm
    have htl : t.tx.length = t.len := Tr.tx_len t
    obtain ⟨u, a1, a2, a3⟩ := splice_spec t l[i].1 l[i].2.1 l[i].2.2.1 ho hl (by omega)
    have b1 := refSplice_spec t.tx l[i].1 l[i].2.1 l[i].2.2.1 (by omega) (by omega)
    have hpl := splP_len t.tx l[i].1 l[i].2.1 l[i].2.2.1 (by omega)
    generalize splP t.tx l[i].1 l[i].2.1 l[i].2.2.1 = sp at a1 a3 b1 hpl
    obtain ⟨kd, sx⟩ := sp
    simp only at a1 a3 b1 hpl
    have ul := Tr.len_tx a3
    have c1 := text_spec u (by omega)
    have c2 := text_spec t (by omega)
    rw [a3] at c1
    have key : ∀ v : Tr, v.len ≤ 20000 → ∀ m, LV CV (.call 16) [v.enc] m [] = some ⟨.ret, [.int .i64 (v.fd + 1 : Nat)], m, []⟩ := fun v hv m => lines_spec v (by have := v.fd_le; omega) m
    have hln : ∀ v : Tr, (linesP v.tx).length = v.fd + 1 := fun v => by unfold linesP; rw [lns_len, Tr.tx_cn]
    have rl : ∀ v : Tr, v.len ≤ 20000 → ∀ m, LV CV (.call 17) [S v.tx] m [] = some ⟨.ret, [sq false false 1 ((linesP v.tx).map es)], m, []⟩ := fun v hv m => refLines_spec v.tx (by rw [Tr.tx_len]; omega) m
    by_cases hk : kd = 0
    · obtain ⟨w, e1, e2⟩ := ih (i + 1) u (by omega) a2 (by omega)
      refine ⟨w, Q300 ?_, e2⟩
      subst a3
      push_cast at e1
      simp [y300, hlt, ee0, ee1, ee2, a1, b1, c1, c2, hk, len_spec, Tr.tx_len, key u (by omega), rl u (by omega), hln, w1, e1]
    · obtain ⟨w, e1, e2⟩ := ih (i + 1) t (by omega) ho (by omega)
      refine ⟨w, Q300 ?_, e2⟩
      push_cast at e1
      simp [y300, hlt, ee0, ee1, ee2, a1, b1, c1, c2, hk, len_spec, Tr.tx_len, key t (by omega), rl t (by omega), hln, w1, e1]
theorem plays_run (s : List UInt8) (nn : Bool) (l : List Ed) (m : Mem) : LV CV (.call 3) [S s, sq nn false 3 (l.map ee)] m [] = some ⟨.ret, [.bool true], m, []⟩ := by
  refine R3 ?_
  obtain ⟨b, b1, b2⟩ := light_spec s nn l
  cases b with
  | false => simp [x3, b1, alive_spec]
  | true =>
    obtain ⟨h1, h2, h3⟩ := b2 rfl
    obtain ⟨t, a1, a2, a3⟩ := make_spec s (by omega)
    by_cases hb : 20000 < s.length
    · have hb' : (20000 : Int) < s.length := by omega
      rw [if_pos hb] at a3
      have hl : t.len = 0 := by rw [Tr.len_tx a3]; rfl
      simp [x3, b1, a1, hb, hb', len_spec, hl, alive_spec]
    · have hb' : ¬ (20000 : Int) < s.length := by omega
      rw [if_neg hb] at a3
      have hl := Tr.len_tx a3
      subst a3
      obtain ⟨w, e1, e2⟩ := plays_loop nn l h2 h3 ⟨[], m.next, m.next, 0⟩ l.length 0 t (by omega) a2 (by omega)
      simp at e1
      simp [x3, b1, a1, hb, hb', e1, e2, alive_spec]
theorem height_loop (nn : Bool) (l : List Ed) (h40 : l.length ≤ 40) (hx : ∀ x ∈ l, x.2.2.1.length ≤ 20100) (m : Mem) : ∀ (k i : Nat) (t : Tr), i + k = l.length → t.Ok0 → t.len ≤ 20000 →
    ∃ w, LV CV (.loop 400) [sq nn false 3 (l.map ee), .bool false, t.enc, .int .i64 0, .int .i64 i] m [] = some ⟨.exit 0, w, m, []⟩ := by
  intro k
  induction k with
  | zero =>
    intro i t hi ho hl
    obtain rfl : i = l.length := by omega
    exact ⟨_, Q400 (r := ⟨.exit 0, _, m, []⟩) (by simp [y400]; rfl)⟩
  | succ k ih =>
    intro i t hi ho hl
    have hlt : i < l.length := by omega
    have w1 := wi (n := (i : Int) + 1) (by omega) (by omega)
    have hm : l[i] ∈ l := List.getElem_mem hlt
    have hxi := hx _ hm
    have htl : t.tx.length = t.len := Tr.tx_len t
    obtain ⟨u, a1, a2, a3⟩ := splice_spec t l[i].1 l[i].2.1 l[i].2.2.1 ho hl (by omega)
    have hpl := splP_len t.tx l[i].1 l[i].2.1 l[i].2.2.1 (by omega)
    generalize splP t.tx l[i].1 l[i].2.1 l[i].2.2.1 = sp at a1 a3 hpl
    obtain ⟨kd, sx⟩ := sp
    simp only at a1 a3 hpl
    have ul := Tr.len_tx a3
    have key : ∀ v : Tr, v.Ok0 → v.len ≤ 20000 → ¬ (30 : Int) < v.ht ∧ ¬ (v.ht : Int) < 0 ∧ ((v.ht = 0) = (v.len = 0)) := fun v hv hl => by
      refine ⟨by have := hv.low hl; omega, by omega, ?_⟩
      rcases hv with rfl | hv
      · rfl
      · have := hv.pos
        apply propext
        omega
    by_cases hk : kd = 0
    · obtain ⟨w, e1⟩ := ih (i + 1) u (by omega) a2 (by omega)
      obtain ⟨k1, k2, k3⟩ := key u a2 (by omega)
      refine ⟨w, Q400 ?_⟩
      push_cast at e1
      simp [y400, hlt, ee0, ee1, ee2, a1, hk, height_spec, len_spec, k1, k2, k3, w1, e1]
    · obtain ⟨w, e1⟩ := ih (i + 1) t (by omega) ho (by omega)
      obtain ⟨k1, k2, k3⟩ := key t ho (by omega)
      refine ⟨w, Q400 ?_⟩
      push_cast at e1
      simp [y400, hlt, ee0, ee1, ee2, a1, hk, height_spec, len_spec, k1, k2, k3, w1, e1]
theorem height_loop0 (nn : Bool) (l : List Ed) (t : Tr) (kd : Int) (hk : kd ≠ 0) (m : Mem) : ∃ w, LV CV (.loop 400) [sq nn false 3 (l.map ee), .bool false, t.enc, .int .i64 kd, .int .i64 0] m [] = some ⟨.exit 0, w, m, []⟩ := by
  refine ⟨[sq nn false 3 (l.map ee), .bool false, t.enc, .int .i64 kd, .int .i64 0], Q400 ?_⟩
  simp [y400, hk]
theorem height_run (s : List UInt8) (nn : Bool) (l : List Ed) (m : Mem) : LV CV (.call 4) [S s, sq nn false 3 (l.map ee)] m [] = some ⟨.ret, [.bool true], m, []⟩ := by
  refine R4 ?_
  obtain ⟨b, b1, b2⟩ := light_spec s nn l
  cases b with
  | false => simp [x4, b1, alive_spec]
  | true =>
    obtain ⟨h1, h2, h3⟩ := b2 rfl
    obtain ⟨t, a1, a2, a3⟩ := make_spec s (by omega)
    have hl := Tr.len_tx a3
    by_cases hb : 20000 < s.length
    · obtain ⟨w, e1⟩ := height_loop0 nn l t 17 (by decide) ⟨[], m.next, m.next, 0⟩
      simp [x4, b1, a1, hb, e1, alive_spec]
    · rw [if_neg hb] at hl
      obtain ⟨w, e1⟩ := height_loop nn l h2 h3 ⟨[], m.next, m.next, 0⟩ l.length 0 t (by omega) a2 (by omega)
      simp at e1
      simp [x4, b1, a1, hb, e1, alive_spec]
end Go.Proofs.Ytjojfpmelhaknaa.D
