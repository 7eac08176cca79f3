/-
  Ropes: one cut in two; one of a text; one spliced.
-/
import Derived.Test.YtjojfpmelhaknaaRo3
namespace Go.Proofs.Ytjojfpmelhaknaa.D
set_option linter.unusedVariables false
set_option linter.unusedSimpArgs false
theorem join_ok {l r : Tr} (hl : l.Ok0) (hr : r.Ok0) (h : l.len + r.len ≤ 1000000000000) :
    ∃ t : Tr, (∀ m, LV CV (.call 30) [l.enc, r.enc] m [] = some ⟨.ret, [t.enc], m, []⟩) ∧ t.Ok0 ∧ t.tx = l.tx ++ r.tx := by
  obtain ⟨t, a, b, c, _⟩ := join_spec _ l r (Nat.le_refl _) hl hr h
  exact ⟨t, a, b, c⟩
theorem Tr.len_tx {t : Tr} {l : List UInt8} (h : t.tx = l) : t.len = l.length := by rw [← Tr.tx_len, h]
theorem cut_spec : ∀ (t : Tr) (at_ : Int), t.Ok0 → t.len ≤ 1000000000 → -10000000000 ≤ at_ → at_ ≤ 10000000000 →
    ∃ a b : Tr, (∀ m, LV CV (.call 29) [t.enc, .int .i64 at_] m [] = some ⟨.ret, [.tuple [a.enc, b.enc].toArray], m, []⟩) ∧ a.Ok0 ∧ b.Ok0 ∧ a.tx = t.tx.take at_.toNat ∧ b.tx = t.tx.drop at_.toNat := by
  intro t
  induction t with
  | e =>
    intro at_ _ _ _ _
    refine ⟨.e, .e, fun m => ?_, .inl rfl, .inl rfl, by simp [Tr.tx], by simp [Tr.tx]⟩
    refine R29 ?_
    simp [x29]
  | lf s =>
    intro at_ ho hl b1 b2
    have ho' : (Tr.lf s).Ok := by rcases ho with h | h; cases h; exact h
    by_cases h0 : at_ ≤ 0
    · refine ⟨.e, .lf s, fun m => ?_, .inl rfl, ho, by simp [Tr.tx, show at_.toNat = 0 by omega], by simp [Tr.tx, show at_.toNat = 0 by omega]⟩
      refine R29 ?_
      simp [x29, Tr.lf_ne, h0]
    · by_cases h1 : (s.length : Int) ≤ at_
      · refine ⟨.lf s, .e, fun m => ?_, ho, .inl rfl, by simp only [Tr.tx]; rw [List.take_of_length_le (by omega)], by simp only [Tr.tx]; rw [List.drop_of_length_le (by omega)]⟩
        refine R29 ?_
        have h2 : ((Tr.lf s).len : Int) ≤ at_ := h1
        simp [x29, Tr.lf_ne, h0, Tr.chk, Tr.fa, Tr.cs3, h2]
      · have h2 : ¬ ((Tr.lf s).len : Int) ≤ at_ := h1
        have h64 := ho'.2
        refine ⟨leafT (s.take at_.toNat), leafT (s.drop at_.toNat), fun m => ?_, leafT_ok (by simp; omega), leafT_ok (by simp; omega), by rw [leafT_tx]; rfl, by rw [leafT_tx]; rfl⟩
        refine R29 ?_
        have h3 : 0 ≤ at_ ∧ at_ ≤ (s.length : Int) := by omega
        have h4 : (Tr.lf s).ht = 1 := rfl
        simp [x29, Tr.lf_ne, h0, Tr.chk, Tr.fa, Tr.cs3, Tr.cs5, Tr.cs0, h2, h3, h4, leaf_spec, List.take_of_length_le (show s.length ≤ s.length from Nat.le_refl _)]
  | nd l r il ir =>
    intro at_ ho hlen b1 b2
    have ho' : (Tr.nd l r).Ok := by rcases ho with h | h; cases h; exact h
    obtain ⟨ol, or, g1, g2⟩ := ho'
    have pl := ol.pos
    have pr := or.pos
    rw [Tr.len_nd] at hlen
    by_cases h0 : at_ ≤ 0
    · refine ⟨.e, .nd l r, fun m => ?_, .inl rfl, ho, by simp [Tr.tx, show at_.toNat = 0 by omega], by simp [Tr.tx, show at_.toNat = 0 by omega]⟩
      refine R29 ?_
      simp [x29, Tr.nd_ne, h0]
    · by_cases h1 : ((Tr.nd l r).len : Int) ≤ at_
      · have h2 : (Tr.nd l r).tx.length ≤ at_.toNat := by rw [Tr.tx_len]; omega
        refine ⟨.nd l r, .e, fun m => ?_, ho, .inl rfl, by rw [List.take_of_length_le h2], by rw [List.drop_of_length_le h2]; rfl⟩
        refine R29 ?_
        simp [x29, Tr.nd_ne, h0, Tr.chk, Tr.fa, Tr.cs3, h1]
      · have h4 : ¬ ((Tr.nd l r).ht : Int) = 1 := by rw [Tr.ht_nd]; omega
        have h1' := h1
        rw [Tr.len_nd] at h1'
        by_cases h5 : at_ < (l.len : Int)
        · obtain ⟨a, b, k1, k2, k3, k4, k5⟩ := il at_ (.inr ol) (by omega) b1 b2
          have hbl : b.len + r.len ≤ 1000000000000 := by
            have := Tr.len_tx k5
            rw [List.length_drop, Tr.tx_len] at this
            omega
          obtain ⟨t, j1, j2, j3⟩ := join_ok k3 (.inr or) hbl
          refine ⟨a, t, fun m => ?_, k2, j2, ?_, ?_⟩
          · refine R29 ?_
            simp [x29, Tr.nd_ne, h0, Tr.chk, Tr.fa, Tr.cs3, Tr.cs5, Tr.cs1, Tr.cs2, h1, h4, h5, len_spec, k1, j1]
          · rw [k4, Tr.tx_nd, List.take_append_of_le_length (by rw [Tr.tx_len]; omega)]
          · rw [j3, k5, Tr.tx_nd, List.drop_append_of_le_length (by rw [Tr.tx_len]; omega)]
        · obtain ⟨a, b, k1, k2, k3, k4, k5⟩ := ir (at_ - l.len) (.inr or) (by omega) (by omega) (by omega)
          have hbl : l.len + a.len ≤ 1000000000000 := by
            have := Tr.len_tx k4
            rw [List.length_take, Tr.tx_len] at this
            omega
          obtain ⟨t, j1, j2, j3⟩ := join_ok (.inr ol) k2 hbl
          have w1 := wi (n := at_ - l.len) (by omega) (by omega)
          have hz : at_.toNat - l.tx.length = (at_ - l.len).toNat := by rw [Tr.tx_len]; omega
          have hle : l.tx.length ≤ at_.toNat := by rw [Tr.tx_len]; omega
          refine ⟨t, b, fun m => ?_, j2, k3, ?_, ?_⟩
          · refine R29 ?_
            simp [x29, Tr.nd_ne, h0, Tr.chk, Tr.fa, Tr.cs3, Tr.cs5, Tr.cs1, Tr.cs2, h1, h4, h5, len_spec, w1, k1, j1]
          · rw [j3, k4, Tr.tx_nd, List.take_append, hz, List.take_of_length_le hle]
          · rw [k5, Tr.tx_nd, List.drop_append, hz, List.drop_of_length_le hle, List.nil_append]
theorem of_spec : ∀ (n : Nat) (s : List UInt8), s.length ≤ n → s.length ≤ 1000000000 →
    ∃ t : Tr, (∀ m, LV CV (.call 27) [S s] m [] = some ⟨.ret, [t.enc], m, []⟩) ∧ t.Ok0 ∧ t.tx = s := by
  intro n
  induction n with
  | zero =>
    intro s h _
    have : s = [] := List.eq_nil_of_length_eq_zero (by omega)
    subst this
    refine ⟨leafT [], fun m => ?_, leafT_ok (by simp), leafT_tx _⟩
    refine R27 ?_
    simp [x27, leaf_spec]
  | succ n ih =>
    intro s h hb
    by_cases h64 : s.length ≤ 64
    · refine ⟨leafT s, fun m => ?_, leafT_ok h64, leafT_tx _⟩
      refine R27 ?_
      have : (s.length : Int) ≤ 64 := by omega
      simp [x27, leaf_spec, this]
    · obtain ⟨a, a1, a2, a3⟩ := ih (s.take (s.length / 2)) (by simp; omega) (by simp; omega)
      obtain ⟨b, b1, b2, b3⟩ := ih (s.drop (s.length / 2)) (by simp; omega) (by simp; omega)
      have hl : a.len + b.len ≤ 1000000000000 := by
        have e1 := Tr.len_tx a3
        have e2 := Tr.len_tx b3
        rw [List.length_take] at e1
        rw [List.length_drop] at e2
        omega
      obtain ⟨t, j1, j2, j3⟩ := join_ok a2 b2 hl
      refine ⟨t, fun m => ?_, j2, by rw [j3, a3, b3, List.take_append_drop]⟩
      refine R27 ?_
      have h1 : ¬ (s.length : Int) ≤ 64 := by omega
      have h2 : (s.length : Int).tdiv 2 = ((s.length / 2 : Nat) : Int) := by rw [Int.tdiv_eq_ediv_of_nonneg (by omega)]; simp
      have h3 := wn (n := s.length / 2) (by omega)
      have h4 : s.length / 2 ≤ s.length := by omega
      simp [x27, h1, h2, h3, -Int.natCast_ediv, h4, a1, b1, j1]
end Go.Proofs.Ytjojfpmelhaknaa.D
