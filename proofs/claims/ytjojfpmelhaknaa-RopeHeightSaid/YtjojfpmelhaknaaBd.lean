/-
  strings.Builder: what it holds, and what its methods do.
-/
import Derived.Test.YtjojfpmelhaknaaVZ
namespace Go.Proofs.Ytjojfpmelhaknaa.D
set_option linter.unusedVariables false
set_option linter.unusedSimpArgs false
/-- A builder in a row of its own, and the bytes that it holds. -/
structure Bd (m : Mem) (o : Nat) (l : List UInt8) : Prop where
  ex : ∃ p v, m.get o = some ⟨4294967296 + 61, [p, v]⟩ ∧ (p = .pointer none ∨ p = .pointer (some ⟨o, 0, none⟩)) ∧ OwnB m v l ∧ ∀ n c, v ≠ .slice (some ⟨o, 0, none⟩) n c
  lo : m.lo ≤ o
  lt : o < m.next
/-- What was there, but for the builder's rows. -/
structure BKept (m : Mem) (o : Nat) (m' : Mem) : Prop where
  lo : m'.lo = m.lo
  ro : m'.ro = m.ro
  next : m.next ≤ m'.next
  get : ∀ q, q < m.next → q ≠ o → (∀ r p v n c, m.get o = some r → r.cells = [p, v] → v ≠ .slice (some ⟨q, 0, none⟩) n c) → m'.get q = m.get q
theorem Bd.new {m : Mem} (h : m.lo ≤ m.next) : Bd (m.push ⟨4294967296 + 61, [.pointer none, .slice none 0 0]⟩) m.next [] :=
  ⟨⟨_, _, by simp, .inl rfl, .nil (by simp only [Mem.lo_push, Mem.next_push]; omega), fun n c h => by cases h⟩, h, by simp⟩
theorem noEscape_spec (o : Nat) (m : Mem) : LV CV (.call 49) [.pointer (some ⟨o, 0, none⟩)] m [] = some ⟨.ret, [.pointer (some ⟨o, 0, none⟩)], m, []⟩ := by
  rw [L_givenV (C := CV) (g := gkV .same) rfl]
  rfl
theorem copyCheck_spec {m : Mem} {o : Nat} {v p : Value} (hg : m.get o = some ⟨4294967296 + 61, [p, v]⟩) (hp : p = .pointer none ∨ p = .pointer (some ⟨o, 0, none⟩)) (hl : m.lo ≤ o) :
    ∃ m', LV CV (.call 46) [.pointer (some ⟨o, 0, none⟩)] m [] = some ⟨.ret, [.tuple [].toArray], m', []⟩ ∧ m'.get o = some ⟨4294967296 + 61, [.pointer (some ⟨o, 0, none⟩), v]⟩ ∧ m'.lo = m.lo ∧ m'.ro = m.ro ∧ m'.next = m.next ∧ ∀ q, q ≠ o → m'.get q = m.get q := by
  rcases hp with rfl | rfl
  · refine ⟨m.set o ⟨4294967296 + 61, [.pointer (some ⟨o, 0, none⟩), v]⟩, ?_, by simp, rfl, rfl, rfl, fun q hq => by simp [hq]⟩
    refine R46 ?_
    have h1 : aToUns (.pointer (some ⟨o, 0, none⟩)) m = some (.pointer (some ⟨o, 0, none⟩)) := by simp [aToUns, addr?, hg]
    have h2 : aFromUns 61 2 (.pointer (some ⟨o, 0, none⟩)) m = some (.pointer (some ⟨o, 0, none⟩)) := by simp [aFromUns, addr?, hg, mark]
    have h3 : m.st o 0 [.pointer (some ⟨o, 0, none⟩)] = some (m.set o ⟨4294967296 + 61, [.pointer (some ⟨o, 0, none⟩), v]⟩) := by
      rw [st_some hg hl (by simp)]
      rfl
    simp [x46, hg, h1, noEscape_spec, h2, aSt, addr?, h3]
  · refine ⟨m, ?_, hg, rfl, rfl, rfl, fun _ _ => rfl⟩
    refine R46 ?_
    have h1 : aEqP true (.pointer (some ⟨o, 0, none⟩)) (.pointer (some ⟨o, 0, none⟩)) = some (.bool false) := by simp [aEqP, addr?]
    simp [x46, hg, h1]
theorem writeString_spec {m : Mem} {o : Nat} {l : List UInt8} (h : Bd m o l) (x : List UInt8) (hx : l.length + x.length ≤ 1000000000) :
    ∃ m', LV CV (.call 41) [.pointer (some ⟨o, 0, none⟩), S x] m [] = some ⟨.ret, [.tuple [.int .i64 x.length, .nilIface].toArray], m', []⟩ ∧ Bd m' o (l ++ x) ∧ BKept m o m' := by
  obtain ⟨⟨p, v, hg, hp, hv, hne⟩, hlo, hlt⟩ := h
  obtain ⟨m1, a1, a2, a3, a4, a5, a6⟩ := copyCheck_spec hg hp hlo
  have hv1 : OwnB m1 v l := by
    refine ⟨by rw [a3, a5]; exact hv.lo, ?_⟩
    rcases hv.at_ with hh | ⟨q, c, b1, b2, b3, b4, b5, b6⟩
    · exact .inl hh
    · refine .inr ⟨q, c, b1, b2, b3, ?_, by rw [a3]; exact b5, by rw [a5]; exact b6⟩
      rw [a6 q (fun e => hne _ _ (by rw [← e]; exact b2))]
      exact b4
  obtain ⟨v2, m2, c1, c2, c3, c4, c5⟩ := hv1.app (vSrc_text x (by omega) m1) (b := 1) (by omega) (by omega)
  have hg2 : m2.get o = some ⟨4294967296 + 61, [.pointer (some ⟨o, 0, none⟩), v]⟩ := by
    rw [c3.get o (by omega) hne]; exact a2
  have hl2 : m2.lo ≤ o := by rw [c3.lo, a3]; exact hlo
  have hne2 : ∀ n c, v2 ≠ .slice (some ⟨o, 0, none⟩) n c := by
    intro n c e
    by_cases hx0 : x = []
    · rw [(c4 hx0).1] at e
      exact hne _ _ e
    · obtain ⟨n', c', e'⟩ := c5 hx0
      rw [e'] at e
      cases e
      omega
  obtain ⟨q1, q2⟩ := c2.single
  have hst : m2.st o 1 [v2] = some (m2.set o ⟨4294967296 + 61, [.pointer (some ⟨o, 0, none⟩), v2]⟩) := by
    rw [st_some hg2 hl2 (by simp)]
    rfl
  have q3 : v2.cells.size = 1 := by rw [← Array.length_toList, q2]; rfl
  refine ⟨m2.set o ⟨4294967296 + 61, [.pointer (some ⟨o, 0, none⟩), v2]⟩, ?_, ⟨⟨_, v2, by simp, .inr rfl, ?_, hne2⟩, by simpa using hl2, by have := c3.next; simp only [Mem.next_set]; omega⟩, ⟨?_, ?_, ?_, fun q hq hqo hqv => ?_⟩⟩
  · refine R41 ?_
    simp [x41, a1, a2, c1, aSt, addr?, q1, q2, q3, hst]
  · refine ⟨c2.lo, ?_⟩
    rcases c2.at_ with hh | ⟨q, c, b1, b2, b3, b4, b5, b6⟩
    · exact .inl hh
    · refine .inr ⟨q, c, b1, b2, b3, ?_, b5, b6⟩
      rw [Mem.get_set, if_neg (fun e => hne2 _ _ (by rw [← e]; exact b2))]
      exact b4
  · simp only [Mem.lo_set]; rw [c3.lo, a3]
  · simp only [Mem.ro_set]; rw [c3.ro, a4]
  · simp only [Mem.next_set]; have := c3.next; omega
  · rw [Mem.get_set, if_neg hqo, c3.get q (by omega) (fun n c e => hqv _ _ _ n c hg rfl e), a6 q hqo]
theorem bstring_spec {m : Mem} {o : Nat} {l : List UInt8} (h : Bd m o l) (hx : l.length ≤ 1000000000) :
    ∃ m', LV CV (.call 32) [.pointer (some ⟨o, 0, none⟩)] m [] = some ⟨.ret, [S l], m', []⟩ ∧ BKept m o m' := by
  obtain ⟨⟨p, v, hg, hp, hv, hne⟩, hlo, hlt⟩ := h
  obtain ⟨q, e1, e2⟩ := hv.ustr (by omega)
  have e3 := hv.len
  rcases e2 with ⟨_, _, e2⟩ | ⟨o2, ⟨n, c, hv2⟩, e2⟩
  · refine ⟨m, ?_, rfl, rfl, Nat.le_refl _, fun _ _ _ _ => rfl⟩
    refine R32 ?_
    simp [x32, hg, e1, e2, e3]
  · refine ⟨m.del o2, ?_, rfl, rfl, Nat.le_refl _, fun q _ _ hq => ?_⟩
    · refine R32 ?_
      simp [x32, hg, e1, e2, e3]
    · rw [Mem.get_del, if_neg (fun e => hq _ _ _ n c hg rfl (by rw [e]; exact hv2))]
end Go.Proofs.Ytjojfpmelhaknaa.D
