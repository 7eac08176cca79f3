/-
  Ropes: the text of one.
-/
import Derived.Test.YtjojfpmelhaknaaRo4
import Derived.Test.YtjojfpmelhaknaaBd
namespace Go.Proofs.Ytjojfpmelhaknaa.D
set_option linter.unusedVariables false
set_option linter.unusedSimpArgs false
/-- One that writes a rope's text behind what a builder holds. -/
def Writes (t : Tr) : Prop := ∀ (m : Mem) (o : Nat) (l : List UInt8), Bd m o l → l.length + t.len ≤ 1000000000 → ∃ m', LV CV (.call 31) [t.enc, .pointer (some ⟨o, 0, none⟩)] m [] = some ⟨.ret, [.tuple [].toArray], m', []⟩ ∧ Bd m' o (l ++ t.tx)
theorem build_two {u v : Value} (hu : single u) (hv : single v) : aBuild [(0, 1), (1, 1)] [(.pointer none), (.pointer none)] [(0, u), (1, v)] = some (.agg [u, v].toArray) := by
  obtain ⟨u1, u2⟩ := hu
  obtain ⟨v1, v2⟩ := hv
  have u3 : u.cells.size = 1 := by rw [← Array.length_toList, u2]; rfl
  have v3 : v.cells.size = 1 := by rw [← Array.length_toList, v2]; rfl
  simp [aBuild, fillL, u1, u2, u3, v1, v2, v3, putL]
theorem halves {u v : Tr} (hu : Writes u) (hv : Writes v) (m : Mem) (o : Nat) (l : List UInt8) (h : Bd m o l) (hl : l.length + (u.len + v.len) ≤ 1000000000) :
    ∃ m' w, LV CV (.loop 3100) [.pointer (some ⟨o, 0, none⟩), .agg [u.enc, v.enc].toArray, .int .i64 0] m [] = some ⟨.exit 0, w, m', []⟩ ∧ Bd m' o (l ++ (u.tx ++ v.tx)) := by
  obtain ⟨m1, a1, a2⟩ := hu m o l h (by omega)
  obtain ⟨m2, b1, b2⟩ := hv m1 o _ a2 (by rw [List.length_append, Tr.tx_len]; omega)
  have w1 := wi (n := 0 + 1) (by omega) (by omega)
  have w2 := wi (n := 1 + 1) (by omega) (by omega)
  refine ⟨m2, [.pointer (some ⟨o, 0, none⟩), .agg [u.enc, v.enc].toArray, .int .i64 2], ?_, by simpa using b2⟩
  refine Q3100 ?_
  have e1 : aElem false 2 1 (.agg [u.enc, v.enc].toArray) (.int .i64 0) = some u.enc := rfl
  have e2 : aElem false 2 1 (.agg [u.enc, v.enc].toArray) (.int .i64 1) = some v.enc := rfl
  have q2 : LV CV (.loop 3100) [.pointer (some ⟨o, 0, none⟩), .agg [u.enc, v.enc].toArray, .int .i64 2] m2 [] = some ⟨.exit 0, [.pointer (some ⟨o, 0, none⟩), .agg [u.enc, v.enc].toArray, .int .i64 2], m2, []⟩ :=
    Q3100 (by simp [y3100])
  have q1 : LV CV (.loop 3100) [.pointer (some ⟨o, 0, none⟩), .agg [u.enc, v.enc].toArray, .int .i64 1] m1 [] = some ⟨.exit 0, [.pointer (some ⟨o, 0, none⟩), .agg [u.enc, v.enc].toArray, .int .i64 2], m2, []⟩ := by
    refine Q3100 ?_
    simp only [y3100, aBin_lss, Option.bind_some, e2, b1, retK_ret, aBin_add, w2]
    simpa using q2
  simp only [y3100, aBin_lss, Option.bind_some, e1, a1, retK_ret, aBin_add, w1]
  simpa using q1
theorem write_spec : ∀ t : Tr, Writes t := by
  have he : Writes .e := fun m o l h _ => ⟨m, by
    refine R31 ?_
    simp [x31], by simpa [Tr.tx] using h⟩
  intro t
  induction t with
  | e => exact he
  | lf s =>
    intro m o l h hl
    have hs : (Tr.lf s).len = s.length := rfl
    obtain ⟨m1, a1, a2, _⟩ := writeString_spec h s (by rw [hs] at hl; exact hl)
    obtain ⟨m2, w, b1, b2⟩ := halves he he m1 o _ a2 (by rw [List.length_append]; simp only [Tr.len]; rw [hs] at hl; omega)
    refine ⟨m2, ?_, by simpa [Tr.tx] using b2⟩
    refine R31 ?_
    have hb : aBuild [(0, 1), (1, 1)] [(.pointer none), (.pointer none)] [(0, .pointer none), (1, .pointer none)] = some (.agg [.pointer none, .pointer none].toArray) := rfl
    simp only [Tr.enc_e] at b1
    simp [x31, Tr.lf_ne, Tr.chk, Tr.fa, Tr.cs0, Tr.cs1l, Tr.cs2l, a1, hb, b1]
  | nd u v iu iv =>
    intro m o l h hl
    rw [Tr.len_nd] at hl
    obtain ⟨m1, a1, a2, _⟩ := writeString_spec h [] (by simp; omega)
    obtain ⟨m2, w, b1, b2⟩ := halves iu iv m1 o _ a2 (by simp; omega)
    refine ⟨m2, ?_, by simpa [Tr.tx] using b2⟩
    refine R31 ?_
    have hb := build_two (Tr.single_enc u) (Tr.single_enc v)
    simp [x31, Tr.nd_ne, Tr.chk, Tr.fa, Tr.cs0n, Tr.cs1, Tr.cs2, a1, hb, b1]
theorem text_spec (t : Tr) (hl : t.len ≤ 1000000000) (m : Mem) : LV CV (.call 15) [t.enc] m [] = some ⟨.ret, [S t.tx], m, []⟩ := by
  refine R15 ?_
  have h0 : Bd ((⟨[], m.next, m.next, 0⟩ : Mem).push ⟨4294967296 + 61, [.pointer none, .slice none 0 0]⟩) m.next [] := Bd.new (m := ⟨[], m.next, m.next, 0⟩) (Nat.le_refl _)
  obtain ⟨m1, a1, a2⟩ := write_spec t _ _ _ h0 (by simpa using hl)
  obtain ⟨m2, b1, _⟩ := bstring_spec a2 (by simpa [Tr.tx_len] using hl)
  simp at a1 b1
  simp [x15, letK, a1, b1]
end Go.Proofs.Ytjojfpmelhaknaa.D
