/-
  Ropes: two of them made one, level; one cut in two; one of a text.
-/
import Derived.Test.YtjojfpmelhaknaaRo1
namespace Go.Proofs.Ytjojfpmelhaknaa.D
set_option linter.unusedVariables false
set_option linter.unusedSimpArgs false
namespace Tr
def cs : Tr → List Value
  | .e => []
  | .lf s => [S s, .pointer none, .pointer none, .int .i64 s.length, .int .i64 (cn s), .int .i64 1]
  | .nd l r => [S [], l.enc, r.enc, .int .i64 (l.len + r.len : Nat), .int .i64 (l.fd + r.fd : Nat), .int .i64 (max l.ht r.ht + 1 : Nat)]
theorem enc_cs {t : Tr} (h : t ≠ .e) : t.enc = fp t.cs 0 := by cases t <;> first | exact absurd rfl h | rfl
theorem chk {t : Tr} (h : t ≠ .e) : vCheck t.enc = some t.enc := by rw [enc_cs h]; simp
theorem fa {t : Tr} (h : t ≠ .e) (k : Nat) : vFieldAddr k t.enc = some (fp t.cs k) := by rw [enc_cs h]; simp
theorem cs3 {t : Tr} (h : t ≠ .e) : t.cs[3]? = some (.int .i64 t.len) := by cases t <;> first | exact absurd rfl h | rfl
theorem cs4 {t : Tr} (h : t ≠ .e) : t.cs[4]? = some (.int .i64 t.fd) := by cases t <;> first | exact absurd rfl h | rfl
theorem cs5 {t : Tr} (h : t ≠ .e) : t.cs[5]? = some (.int .i64 t.ht) := by cases t <;> first | exact absurd rfl h | rfl
theorem cs1 (l r : Tr) : (Tr.nd l r).cs[1]? = some l.enc := rfl
theorem cs2 (l r : Tr) : (Tr.nd l r).cs[2]? = some r.enc := rfl
theorem cs0n (l r : Tr) : (Tr.nd l r).cs[0]? = some (S []) := rfl
theorem cs0 (s : List UInt8) : (Tr.lf s).cs[0]? = some (S s) := rfl
theorem cs1l (s : List UInt8) : (Tr.lf s).cs[1]? = some (.pointer none) := rfl
theorem cs2l (s : List UInt8) : (Tr.lf s).cs[2]? = some (.pointer none) := rfl
theorem nd_ne (l r : Tr) : Tr.nd l r ≠ .e := fun h => by cases h
theorem lf_ne (s : List UInt8) : Tr.lf s ≠ .e := fun h => by cases h
theorem Ok.node {t : Tr} (h : t.Ok) (h2 : 2 ≤ t.ht) : ∃ a b, t = .nd a b := by
  cases t with
  | e => exact h.elim
  | lf s => simp [ht] at h2
  | nd a b => exact ⟨a, b, rfl⟩
theorem Ok.isLeaf {t : Tr} (h : t.Ok) (h2 : t.ht = 1) : ∃ s, t = .lf s := by
  cases t with
  | e => exact h.elim
  | lf s => exact ⟨s, rfl⟩
  | nd a b => have := h.1.pos; simp only [ht] at h2; omega
theorem Ok.mk {l r : Tr} (hl : l.Ok) (hr : r.Ok) (h1 : l.ht ≤ r.ht + 1) (h2 : r.ht ≤ l.ht + 1) : (Tr.nd l r).Ok := ⟨hl, hr, h1, h2⟩
theorem ht_nd (l r : Tr) : (Tr.nd l r).ht = max l.ht r.ht + 1 := rfl
theorem len_nd (l r : Tr) : (Tr.nd l r).len = l.len + r.len := rfl
theorem tx_nd (l r : Tr) : (Tr.nd l r).tx = l.tx ++ r.tx := rfl
end Tr
theorem wi {n : Int} (h : -1000000000000000 ≤ n) (h2 : n ≤ 1000000000000000) : IntKind.wrap .i64 n = n := wrap_i64 (by omega) (by omega)
theorem level_spec (l r : Tr) (hl : l.Ok) (hr : r.Ok) (h1 : l.ht ≤ r.ht + 2) (h2 : r.ht ≤ l.ht + 2) (hn : l.len + r.len ≤ 1000000000000) :
    ∃ t : Tr, (∀ m, LV CV (.call 39) [l.enc, r.enc] m [] = some ⟨.ret, [t.enc], m, []⟩) ∧ t.Ok ∧ t.tx = l.tx ++ r.tx ∧ max l.ht r.ht ≤ t.ht ∧ t.ht ≤ max l.ht r.ht + 1 := by
  have pl := hl.pos
  have pr := hr.pos
  have a1 := wi (n := (l.ht : Int) - r.ht) (by omega) (by omega)
  by_cases hd : r.ht + 1 < l.ht
  · obtain ⟨a, b, rfl⟩ := hl.node (by omega)
    obtain ⟨ha, hb, g1, g2⟩ := hl
    have pa := ha.pos
    have pb := hb.pos
    simp only [Tr.ht_nd, Tr.len_nd] at *
    have hd' : (1 : Int) < ((max a.ht b.ht + 1 : Nat) : Int) - r.ht := by omega
    by_cases hc : b.ht ≤ a.ht
    · have e1 := both_spec b r (by omega) (by omega) (by omega)
      have e2 := both_spec a (.nd b r) (by rw [Tr.len_nd]; omega) (by omega) (by rw [Tr.ht_nd]; omega)
      refine ⟨.nd a (.nd b r), fun m => ?_, .mk ha (.mk hb hr (by omega) (by omega)) (by rw [Tr.ht_nd]; omega) (by rw [Tr.ht_nd]; omega), by simp [Tr.tx_nd], by simp only [Tr.ht_nd]; omega, by simp only [Tr.ht_nd]; omega⟩
      refine R39 ?_
      have hc' : (b.ht : Int) ≤ a.ht := by omega
      simp [x39, height_spec, Tr.ht_nd, -Int.natCast_add, a1, hd', Tr.chk, Tr.fa, Tr.nd_ne, Tr.cs1, Tr.cs2, hc', e1, e2]
    · obtain ⟨c, d, rfl⟩ := hb.node (by omega)
      obtain ⟨hc1, hd1, k1, k2⟩ := hb
      have pc := hc1.pos
      have pd := hd1.pos
      simp only [Tr.ht_nd, Tr.len_nd] at *
      have e1 := both_spec a c (by omega) (by omega) (by omega)
      have e2 := both_spec d r (by omega) (by omega) (by omega)
      have e3 := both_spec (.nd a c) (.nd d r) (by simp only [Tr.len_nd]; omega) (by rw [Tr.ht_nd]; omega) (by rw [Tr.ht_nd]; omega)
      refine ⟨.nd (.nd a c) (.nd d r), fun m => ?_, .mk (.mk ha hc1 (by omega) (by omega)) (.mk hd1 hr (by omega) (by omega)) (by simp only [Tr.ht_nd]; omega) (by simp only [Tr.ht_nd]; omega), by simp [Tr.tx_nd], by simp only [Tr.ht_nd]; omega, by simp only [Tr.ht_nd]; omega⟩
      refine R39 ?_
      have hc' : ¬ ((max c.ht d.ht + 1 : Nat) : Int) ≤ a.ht := by omega
      simp [x39, height_spec, Tr.ht_nd, -Int.natCast_add, a1, hd', Tr.chk, Tr.fa, Tr.nd_ne, Tr.cs1, Tr.cs2, hc', e1, e2, e3]
  · have hd' : ¬ (1 : Int) < (l.ht : Int) - r.ht := by omega
    by_cases he : l.ht + 1 < r.ht
    · obtain ⟨a, b, rfl⟩ := hr.node (by omega)
      obtain ⟨ha, hb, g1, g2⟩ := hr
      have pa := ha.pos
      have pb := hb.pos
      simp only [Tr.ht_nd, Tr.len_nd] at *
      have he' : (l.ht : Int) - ((max a.ht b.ht + 1 : Nat) : Int) < -1 := by omega
      by_cases hc : a.ht ≤ b.ht
      · have e1 := both_spec l a (by omega) (by omega) (by omega)
        have e2 := both_spec (.nd l a) b (by rw [Tr.len_nd]; omega) (by rw [Tr.ht_nd]; omega) (by omega)
        refine ⟨.nd (.nd l a) b, fun m => ?_, .mk (.mk hl ha (by omega) (by omega)) hb (by rw [Tr.ht_nd]; omega) (by rw [Tr.ht_nd]; omega), by simp [Tr.tx_nd], by simp only [Tr.ht_nd]; omega, by simp only [Tr.ht_nd]; omega⟩
        refine R39 ?_
        have hc' : (a.ht : Int) ≤ b.ht := by omega
        simp [x39, height_spec, Tr.ht_nd, -Int.natCast_add, a1, hd', he', Tr.chk, Tr.fa, Tr.nd_ne, Tr.cs1, Tr.cs2, hc', e1, e2]
      · obtain ⟨c, d, rfl⟩ := ha.node (by omega)
        obtain ⟨hc1, hd1, k1, k2⟩ := ha
        have pc := hc1.pos
        have pd := hd1.pos
        simp only [Tr.ht_nd, Tr.len_nd] at *
        have e1 := both_spec l c (by omega) (by omega) (by omega)
        have e2 := both_spec d b (by omega) (by omega) (by omega)
        have e3 := both_spec (.nd l c) (.nd d b) (by simp only [Tr.len_nd]; omega) (by rw [Tr.ht_nd]; omega) (by rw [Tr.ht_nd]; omega)
        refine ⟨.nd (.nd l c) (.nd d b), fun m => ?_, .mk (.mk hl hc1 (by omega) (by omega)) (.mk hd1 hb (by omega) (by omega)) (by simp only [Tr.ht_nd]; omega) (by simp only [Tr.ht_nd]; omega), by simp [Tr.tx_nd], by simp only [Tr.ht_nd]; omega, by simp only [Tr.ht_nd]; omega⟩
        refine R39 ?_
        have hc' : ¬ ((max c.ht d.ht + 1 : Nat) : Int) ≤ b.ht := by omega
        simp [x39, height_spec, Tr.ht_nd, -Int.natCast_add, a1, hd', he', Tr.chk, Tr.fa, Tr.nd_ne, Tr.cs1, Tr.cs2, hc', e1, e2, e3]
    · have he' : ¬ (l.ht : Int) - r.ht < -1 := by omega
      have e1 := both_spec l r (by omega) (by omega) (by omega)
      refine ⟨.nd l r, fun m => ?_, .mk hl hr (by omega) (by omega), rfl, by rw [Tr.ht_nd]; omega, by rw [Tr.ht_nd]; omega⟩
      refine R39 ?_
      simp [x39, height_spec, a1, hd', he', e1]
end Go.Proofs.Ytjojfpmelhaknaa.D
