/-
  Ropes: two of them joined; one cut in two; one of a text.
-/
import Derived.Test.YtjojfpmelhaknaaRo2
namespace Go.Proofs.Ytjojfpmelhaknaa.D
set_option linter.unusedVariables false
set_option linter.unusedSimpArgs false
theorem join_spec : ∀ (n : Nat) (l r : Tr), l.ht + r.ht ≤ n → l.Ok0 → r.Ok0 → l.len + r.len ≤ 1000000000000 →
    ∃ t : Tr, (∀ m, LV CV (.call 30) [l.enc, r.enc] m [] = some ⟨.ret, [t.enc], m, []⟩) ∧ t.Ok0 ∧ t.tx = l.tx ++ r.tx ∧ max l.ht r.ht ≤ t.ht ∧ t.ht ≤ max l.ht r.ht + 1 ∧ (l ≠ .e ∨ r ≠ .e → t.Ok) := by
  intro n
  induction n with
  | zero =>
    intro l r hn hl hr _
    have hle : l = .e := by rcases hl with h | h; exact h; have := h.pos; omega
    have hre : r = .e := by rcases hr with h | h; exact h; have := h.pos; omega
    subst hle hre
    refine ⟨.e, fun m => ?_, .inl rfl, rfl, Nat.le_refl _, by simp [Tr.ht], fun h => by simp at h⟩
    refine R30 ?_
    simp [x30]
  | succ n ih =>
    intro l r hn hl hr hlen
    rcases hl with rfl | hl
    · refine ⟨r, fun m => ?_, hr, rfl, by simp [Tr.ht], by simp [Tr.ht], fun h => by rcases hr with rfl | hr; simp at h; exact hr⟩
      refine R30 ?_
      simp [x30]
    rcases hr with rfl | hr
    · refine ⟨l, fun m => ?_, .inr hl, by simp [Tr.tx], by simp [Tr.ht], by simp [Tr.ht], fun _ => hl⟩
      refine R30 ?_
      simp [x30, hl.ne]
    have pl := hl.pos
    have pr := hr.pos
    have w1 := wi (n := (l.ht : Int) + 1) (by omega) (by omega)
    have w2 := wi (n := (r.ht : Int) + 1) (by omega) (by omega)
    have w3 := wi (n := (l.len : Int) + r.len) (by omega) (by omega)
    by_cases hs : l.ht = 1 ∧ r.ht = 1 ∧ l.len + r.len ≤ 64
    · obtain ⟨h1, h2, h3⟩ := hs
      obtain ⟨a, rfl⟩ := hl.isLeaf h1
      obtain ⟨b, rfl⟩ := hr.isLeaf h2
      have hne : a ++ b ≠ [] := by simp [hl.1]
      have h3' : (Tr.lf a).len = a.length := rfl
      have h4' : (Tr.lf b).len = b.length := rfl
      rw [h3', h4'] at h3 w3
      have hk := leaf_spec (a ++ b)
      refine ⟨leafT (a ++ b), fun m => ?_, leafT_ok (by simp; omega), by rw [leafT_tx]; rfl, by simp [leafT, hl.1, Tr.ht], by simp [leafT, hl.1, Tr.ht], fun _ => by simp only [leafT, if_neg hne]; exact ⟨hne, by simp; omega⟩⟩
      refine R30 ?_
      have h5 : (a.length : Int) + b.length ≤ 64 := by omega
      have h6 : a.length + b.length ≤ 4611686018427387904 := by omega
      simp [x30, Tr.chk, Tr.fa, Tr.lf_ne, Tr.cs5, Tr.cs3, Tr.cs0, h3', h4', w3, h5, h6, hk, Tr.ht]
    · by_cases ha : r.ht + 1 < l.ht
      · obtain ⟨a, b, rfl⟩ := hl.node (by omega)
        obtain ⟨oa, ob, g1, g2⟩ := hl
        have pa := oa.pos
        have pb := ob.pos
        rw [Tr.len_nd] at hlen
        obtain ⟨t, t1, t2, t3, t4, t5, t6⟩ := ih b r (by simp only [Tr.ht_nd] at hn; omega) (.inr ob) (.inr hr) (by omega)
        have ot := t6 (.inl ob.ne)
        have htl : t.len = b.len + r.len := by rw [← Tr.tx_len, t3, List.length_append, Tr.tx_len, Tr.tx_len]
        simp only [Tr.ht_nd] at ha
        obtain ⟨u, u1, u2, u3, u4, u5⟩ := level_spec a t oa ot (by omega) (by omega) (by omega)
        have ub : max (Tr.nd a b).ht r.ht ≤ u.ht ∧ u.ht ≤ max (Tr.nd a b).ht r.ht + 1 ∨ True := .inr trivial
        have hlv : (a.ht ≤ t.ht + 1 ∧ t.ht ≤ a.ht + 1 → u.ht = max a.ht t.ht + 1) := fun hq => by
          have e1 := both_spec a t (by omega) (by omega) (by have := ot.pos; omega)
          have e2 := u1 ⟨[], 0, 0, 0⟩
          have e3 : LV CV (.call 39) [a.enc, t.enc] ⟨[], 0, 0, 0⟩ [] = some ⟨.ret, [(Tr.nd a t).enc], ⟨[], 0, 0, 0⟩, []⟩ := by
            refine R39 ?_
            have a1 := wi (n := (a.ht : Int) - t.ht) (by omega) (by omega)
            have hd' : ¬ (1 : Int) < (a.ht : Int) - t.ht := by omega
            have he' : ¬ (a.ht : Int) - t.ht < -1 := by omega
            simp [x39, height_spec, a1, hd', he', e1]
          rw [e3] at e2
          have hh := height_spec u ⟨[], 0, 0, 0⟩
          have hh2 := height_spec (.nd a t) ⟨[], 0, 0, 0⟩
          have e4 : (Tr.nd a t).enc = u.enc := by simpa using e2
          rw [e4, hh] at hh2
          have : (u.ht : Int) = ((Tr.nd a t).ht : Int) := by simpa using hh2
          rw [Tr.ht_nd] at this
          omega
        refine ⟨u, fun m => ?_, .inr u2, by rw [u3, t3, Tr.tx_nd]; simp, ?_, ?_, fun _ => u2⟩
        · refine R30 ?_
          have hh : (r.ht : Int) + 1 < (Tr.nd a b).ht := by rw [Tr.ht_nd]; omega
          have hn1 : ¬ ((Tr.nd a b).ht : Int) = 1 := by rw [Tr.ht_nd]; omega
          simp [x30, hr.ne, Tr.chk, Tr.fa, Tr.nd_ne, Tr.cs5, Tr.cs3, Tr.cs1, Tr.cs2, hh, hn1, w1, w2, t1, u1]
        · simp only [Tr.ht_nd]; omega
        · simp only [Tr.ht_nd]; omega
      · by_cases hb : l.ht + 1 < r.ht
        · obtain ⟨a, b, rfl⟩ := hr.node (by omega)
          obtain ⟨oa, ob, g1, g2⟩ := hr
          have pa := oa.pos
          have pb := ob.pos
          rw [Tr.len_nd] at hlen
          obtain ⟨t, t1, t2, t3, t4, t5, t6⟩ := ih l a (by simp only [Tr.ht_nd] at hn; omega) (.inr hl) (.inr oa) (by omega)
          have ot := t6 (.inl hl.ne)
          have htl : t.len = l.len + a.len := by rw [← Tr.tx_len, t3, List.length_append, Tr.tx_len, Tr.tx_len]
          simp only [Tr.ht_nd] at hb
          obtain ⟨u, u1, u2, u3, u4, u5⟩ := level_spec t b ot ob (by omega) (by omega) (by omega)
          have hlv : (t.ht ≤ b.ht + 1 ∧ b.ht ≤ t.ht + 1 → u.ht = max t.ht b.ht + 1) := fun hq => by
            have e1 := both_spec t b (by omega) (by have := ot.pos; omega) (by omega)
            have e2 := u1 ⟨[], 0, 0, 0⟩
            have e3 : LV CV (.call 39) [t.enc, b.enc] ⟨[], 0, 0, 0⟩ [] = some ⟨.ret, [(Tr.nd t b).enc], ⟨[], 0, 0, 0⟩, []⟩ := by
              refine R39 ?_
              have a1 := wi (n := (t.ht : Int) - b.ht) (by omega) (by omega)
              have hd' : ¬ (1 : Int) < (t.ht : Int) - b.ht := by omega
              have he' : ¬ (t.ht : Int) - b.ht < -1 := by omega
              simp [x39, height_spec, a1, hd', he', e1]
            rw [e3] at e2
            have hh := height_spec u ⟨[], 0, 0, 0⟩
            have hh2 := height_spec (.nd t b) ⟨[], 0, 0, 0⟩
            have e4 : (Tr.nd t b).enc = u.enc := by simpa using e2
            rw [e4, hh] at hh2
            have : (u.ht : Int) = ((Tr.nd t b).ht : Int) := by simpa using hh2
            rw [Tr.ht_nd] at this
            omega
          refine ⟨u, fun m => ?_, .inr u2, by rw [u3, t3, Tr.tx_nd]; simp, ?_, ?_, fun _ => u2⟩
          · refine R30 ?_
            have hh : (l.ht : Int) + 1 < (Tr.nd a b).ht := by rw [Tr.ht_nd]; omega
            have hh2 : ¬ ((Tr.nd a b).ht : Int) + 1 < l.ht := by rw [Tr.ht_nd]; omega
            have hn1 : ¬ ((Tr.nd a b).ht : Int) = 1 := by rw [Tr.ht_nd]; omega
            by_cases h1 : (l.ht : Int) = 1
            · have h1' := eq_true h1
              simp [x30, hl.ne, Tr.chk, Tr.fa, Tr.nd_ne, Tr.cs5, Tr.cs3, Tr.cs1, Tr.cs2, hh, hh2, h1', hn1, w1, w2, t1, u1]
            · simp [x30, hl.ne, Tr.chk, Tr.fa, Tr.nd_ne, Tr.cs5, Tr.cs3, Tr.cs1, Tr.cs2, hh, hh2, h1, hn1, w1, w2, t1, u1]
          · simp only [Tr.ht_nd]; omega
          · simp only [Tr.ht_nd]; omega
        · have e1 := both_spec l r (by omega) (by omega) (by omega)
          refine ⟨.nd l r, fun m => ?_, .inr (.mk hl hr (by omega) (by omega)), rfl, by rw [Tr.ht_nd]; omega, by rw [Tr.ht_nd]; omega, fun _ => .mk hl hr (by omega) (by omega)⟩
          refine R30 ?_
          have ha' : ¬ (r.ht : Int) + 1 < l.ht := by omega
          have hb' : ¬ (l.ht : Int) + 1 < r.ht := by omega
          by_cases h1 : (l.ht : Int) = 1
          · have h1' := eq_true h1
            by_cases h2 : (r.ht : Int) = 1
            · have h2' := eq_true h2
              have h3 : ¬ (l.len : Int) + r.len ≤ 64 := by omega
              simp [x30, hl.ne, hr.ne, Tr.chk, Tr.fa, Tr.cs5, Tr.cs3, h1', h2', h3, w1, w2, w3, ha', hb', e1]
            · simp [x30, hl.ne, hr.ne, Tr.chk, Tr.fa, Tr.cs5, Tr.cs3, h1', h2, w1, w2, w3, ha', hb', e1]
          · simp [x30, hl.ne, hr.ne, Tr.chk, Tr.fa, Tr.cs5, Tr.cs3, h1, w1, w2, w3, ha', hb', e1]
end Go.Proofs.Ytjojfpmelhaknaa.D
