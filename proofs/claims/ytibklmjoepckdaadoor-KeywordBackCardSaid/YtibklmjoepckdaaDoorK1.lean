import Derived.Test.YtibklmjoepckdaaDoorVS
import Derived.Test.YtibklmjoepckdaaDoorKp
namespace Go.Proofs.YtibklmjoepckdaaDoor.D
open Go.RowKit
set_option linter.unusedVariables false
set_option linter.unusedSimpArgs false
def cb (b : UInt8) : Value := .int .u8 b.toNat
@[simp] theorem cb_eq (b : UInt8) : cb b = .int .u8 b.toNat := rfl
theorem small_loop {o c n : Nat} : ∀ (rest done : List UInt8) (m : Mem), m.get o = some ⟨1, (done ++ rest).map cb⟩ → m.lo ≤ o → n = done.length + rest.length → n < 4611686018427387904 →
    ∃ m', LV CV (.loop 4100) [.slice (some ⟨o, 0, none⟩) n c, .slice (some ⟨o, 0, none⟩) n c, .int .i64 n, .int .i64 done.length] m [] = some ⟨.exit 0, [.slice (some ⟨o, 0, none⟩) n c, .slice (some ⟨o, 0, none⟩) n c, .int .i64 n, .int .i64 n], m', []⟩ ∧ m'.get o = some ⟨1, (done ++ small rest).map cb⟩ := by
  intro rest
  induction rest with
  | nil =>
    intro done m hm hlo hn hs
    refine ⟨m, Q4100 ?_, by simpa [small] using hm⟩
    have : n = done.length := by simpa using hn
    subst this
    simp [y4100]
  | cons b t ih =>
    intro done m hm hlo hn hs
    simp only [List.length_cons] at hn
    have hb := b.toNat_lt
    have hlt : (done.length : Int) < n := by omega
    have hget : ((done ++ b :: t).map cb)[done.length]? = some (.int .u8 b.toNat) := by simp [cb]
    have hw : IntKind.wrap .i64 ((done.length : Int) + 1) = (done.length : Int) + 1 := wrap_i64 (by omega) (by omega)
    by_cases h1 : 65 ≤ b.toNat ∧ b.toNat ≤ 90
    · have hor : aBin .or (.int .u8 b.toNat) (.int .u8 32) = some (.int .u8 (lowB b).toNat) := by
        have := or_u8 b 32
        rw [lowB_eq h1.1 h1.2] at this
        unfold lowB
        rw [if_pos h1]
        exact this
      obtain ⟨m', e1, e2⟩ := ih (done ++ [lowB b]) (m.set o ⟨1, ((done ++ [lowB b]) ++ t).map cb⟩) (by simp) hlo (by simp; omega) hs
      simp only [List.length_append, List.length_singleton, Int.natCast_add, Int.natCast_one] at e1
      refine ⟨m', Q4100 ?_, by simpa [small] using e2⟩
      have hst : m.st o done.length [.int .u8 (lowB b).toNat] = some (m.set o ⟨1, ((done ++ [lowB b]) ++ t).map cb⟩) := by
        rw [st_some hm hlo (by simp)]
        congr 3
        simp [putL, cb]
      have g1 : (65 : Int) ≤ b.toNat := by omega
      have g2 : (b.toNat : Int) ≤ 90 := by omega
      simpa [y4100, hlt, hm, hget, g1, g2, hor, hst, hw] using e1
    · obtain ⟨m', e1, e2⟩ := ih (done ++ [b]) m (by simpa using hm) hlo (by simp; omega) hs
      simp only [List.length_append, List.length_singleton, Int.natCast_add, Int.natCast_one] at e1
      have hlow : lowB b = b := by unfold lowB; rw [if_neg h1]
      refine ⟨m', Q4100 ?_, by simpa [small, hlow] using e2⟩
      by_cases h2 : 65 ≤ b.toNat
      · have g1 : (65 : Int) ≤ b.toNat := by omega
        have g2 : ¬ (b.toNat : Int) ≤ 90 := by omega
        simp [y4100, hlt, hm, hget, g1, g2, hw, e1]
      · have g1 : ¬ (65 : Int) ≤ b.toNat := by omega
        simp [y4100, hlt, hm, hget, g1, hw, e1]
@[simp] theorem small_V {l : List UInt8} (h : l.length < 4611686018427387904) (m : Mem) : LV CV (.call 41) [S l] m [] = some ⟨.ret, [S (small l)], m, []⟩ := by
  refine R41 ?_
  obtain ⟨m', e1, e2⟩ := small_loop (o := m.next) (c := l.length + 1) (n := l.length) l [] ((⟨[], m.next, m.next, 0⟩ : Mem).push ⟨1, l.map cb⟩) (by simp) (by simp) (by simp) h
  have e1' := e1
  simp only [List.length_nil, Int.natCast_zero] at e1'
  have e3 : ∀ l : List UInt8, l.map cb = l.map fun b => .int .u8 b.toNat := fun _ => rfl
  rw [e3] at e1'
  have hl : (small l).length = l.length := by simp [small]
  have e4 := vStr_at (m := m') (o := m.next) (off := 0) (n := l.length) (c := l.length + 1) (l := small l) e2 (by rw [List.drop_zero, List.take_of_length_le (by simp [hl])]; rfl) (by simp [hl])
  simp [x41, e1', e4]
end Go.Proofs.YtibklmjoepckdaaDoor.D
