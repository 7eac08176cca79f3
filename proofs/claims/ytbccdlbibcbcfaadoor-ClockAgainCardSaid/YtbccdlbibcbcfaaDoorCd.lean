/-
  What is shown is read as it was; no program in sight.
-/
import Derived.Test.YtbccdlbibcbcfaaDoorCc
namespace Go.Proofs.YtbccdlbibcbcfaaDoor.D
open Go.RowKit
set_option linter.unusedVariables false
set_option linter.unusedSimpArgs false
theorem dg_nat {d : Nat} (h : d < 10) : (dg d).toNat = 48 + d := by simp [dg, UInt8.toNat_ofNat']; omega
theorem isD_dg {d : Nat} (h : d < 10) : isD (dg d) = true := by
  unfold isD; rw [dg_nat h]; simp; omega
theorem dg_ne {d : Nat} (h : d < 10) {c : UInt8} (hc : c.toNat < 48 ∨ 57 < c.toNat) : dg d ≠ c := fun e => by
  have := dg_nat h
  rw [e] at this; omega
theorem val1 {a : Nat} (ha : a < 10) : valF 0 [dg a] = a := by
  rw [valF_cons, valF_nil, dg_nat ha]; omega
theorem val2 {a b : Nat} (ha : a < 10) (hb : b < 10) : valF 0 [dg a, dg b] = a * 10 + b := by
  rw [valF_cons, valF_cons, valF_nil, dg_nat ha, dg_nat hb]; omega
theorem val3 {a b c : Nat} (ha : a < 10) (hb : b < 10) (hc : c < 10) : valF 0 [dg a, dg b, dg c] = (a * 10 + b) * 10 + c := by
  rw [valF_cons, valF_cons, valF_cons, valF_nil, dg_nat ha, dg_nat hb, dg_nat hc]; omega
theorem num_pair {x : Nat} (h : x < 60) : numP 2 2 59 [dg (x / 10), dg (x % 10)] = some x := by
  unfold numP
  rw [val2 (by omega) (by omega)]
  have e : x / 10 * 10 + x % 10 = x := by omega
  rw [e, if_pos]
  simp [isD_dg (d := x / 10) (by omega), isD_dg (d := x % 10) (by omega)]
  omega
theorem dd_shape {h : Nat} (hh : h < 168) : ∃ l, Lib.decDigits h = l ∧ numP 1 3 167 l = some h ∧ (∀ c ∈ l, ∃ d, d < 10 ∧ c = dg d) ∧ l ≠ [] := by
  refine ⟨_, rfl, ?_⟩
  by_cases h1 : h < 10
  · rw [dd_lt h1]
    refine ⟨?_, fun c hc => by simp at hc; exact ⟨h, h1, hc⟩, by simp⟩
    unfold numP
    rw [val1 h1, if_pos]
    simp [isD_dg h1]; omega
  · by_cases h2 : h < 100
    · rw [dd_ge (by omega), dd_lt (by omega)]
      refine ⟨?_, fun c hc => ?_, by simp⟩
      · unfold numP
        show (if (decide (1 ≤ [dg (h / 10), dg (h % 10)].length) && decide ([dg (h / 10), dg (h % 10)].length ≤ 3) && [dg (h / 10), dg (h % 10)].all isD && decide (valF 0 [dg (h / 10), dg (h % 10)] ≤ 167)) = true then some (valF 0 [dg (h / 10), dg (h % 10)]) else none) = some h
        rw [val2 (by omega) (by omega)]
        have e : h / 10 * 10 + h % 10 = h := by omega
        rw [e, if_pos]
        simp [isD_dg (d := h / 10) (by omega), isD_dg (d := h % 10) (by omega)]
        omega
      · simp at hc
        rcases hc with rfl | rfl
        · exact ⟨_, by omega, rfl⟩
        · exact ⟨_, by omega, rfl⟩
    · rw [dd_ge (by omega), dd_ge (by omega), dd_lt (by omega)]
      refine ⟨?_, fun c hc => ?_, by simp⟩
      · unfold numP
        show (if (decide (1 ≤ [dg (h / 10 / 10), dg (h / 10 % 10), dg (h % 10)].length) && decide ([dg (h / 10 / 10), dg (h / 10 % 10), dg (h % 10)].length ≤ 3) && [dg (h / 10 / 10), dg (h / 10 % 10), dg (h % 10)].all isD && decide (valF 0 [dg (h / 10 / 10), dg (h / 10 % 10), dg (h % 10)] ≤ 167)) = true then some (valF 0 [dg (h / 10 / 10), dg (h / 10 % 10), dg (h % 10)]) else none) = some h
        rw [val3 (by omega) (by omega) (by omega)]
        have e : (h / 10 / 10 * 10 + h / 10 % 10) * 10 + h % 10 = h := by omega
        rw [e, if_pos]
        simp [isD_dg (d := h / 10 / 10) (by omega), isD_dg (d := h / 10 % 10) (by omega), isD_dg (d := h % 10) (by omega)]
        omega
      · simp at hc
        rcases hc with rfl | rfl | rfl
        · exact ⟨_, by omega, rfl⟩
        · exact ⟨_, by omega, rfl⟩
        · exact ⟨_, by omega, rfl⟩
theorem no58 {l : List UInt8} (h : ∀ c ∈ l, ∃ d, d < 10 ∧ c = dg d) : 58 ∉ l := fun hm => by
  obtain ⟨d, hd, e⟩ := h _ hm
  exact dg_ne hd (.inr (by decide)) e.symm
theorem two_dg (x : Nat) (h : x < 60) : ∀ c ∈ [dg (x / 10), dg (x % 10)], ∃ d, d < 10 ∧ c = dg d := fun c hc => by
  simp at hc
  rcases hc with rfl | rfl
  · exact ⟨_, by omega, rfl⟩
  · exact ⟨_, by omega, rfl⟩
theorem sec_nat {a : Nat} (h : a < 604800) : secP (splitC 58 (natP a)) = some a := by
  obtain ⟨l, hl, hn, hd, hne⟩ := dd_shape (h := a / 3600) (by omega)
  have hm := num_pair (x := a / 60 % 60) (by omega)
  have hx := num_pair (x := a % 60) (by omega)
  have e1 : natP a = l ++ 58 :: ([dg (a / 60 % 60 / 10), dg (a / 60 % 60 % 10)] ++ (if 0 < a % 60 then pairP (a % 60) else [])) := by
    unfold natP hourP
    rw [hl]
    simp [pairP]
  rw [e1, splitC_at 58 l _ (no58 hd)]
  by_cases hz : 0 < a % 60
  · rw [if_pos hz]
    have e2 : [dg (a / 60 % 60 / 10), dg (a / 60 % 60 % 10)] ++ pairP (a % 60) = [dg (a / 60 % 60 / 10), dg (a / 60 % 60 % 10)] ++ 58 :: [dg (a % 60 / 10), dg (a % 60 % 10)] := rfl
    rw [e2, splitC_at 58 _ _ (no58 (two_dg _ (by omega))), splitC_no 58 _ (no58 (two_dg _ (by omega)))]
    simp only [secP, hn, hm, hx, Option.bind_some, Option.map_some, Option.some.injEq]
    omega
  · rw [if_neg hz, List.append_nil, splitC_no 58 _ (no58 (two_dg _ (by omega)))]
    simp only [secP, hn, hm, Option.bind_some, Option.map_some, Option.some.injEq]
    omega
theorem natP_head {a : Nat} (h : a < 604800) : ∃ d t, d < 10 ∧ natP a = dg d :: t ∧ t ≠ [] := by
  obtain ⟨l, hl, hn, hd, hne⟩ := dd_shape (h := a / 3600) (by omega)
  cases l with
  | nil => exact absurd rfl hne
  | cons c t =>
    obtain ⟨d, h1, rfl⟩ := hd c (by simp)
    refine ⟨d, t ++ pairP (a / 60 % 60) ++ (if 0 < a % 60 then pairP (a % 60) else []), h1, ?_, by simp [pairP]⟩
    unfold natP hourP
    rw [hl]; simp
theorem textP_ne {n : Int} (h1 : -604800 < n) (h2 : n < 604800) : textP n ≠ [45] := by
  obtain ⟨d, t, hd, e, ht⟩ := natP_head (a := n.natAbs) (by omega)
  unfold textP
  rw [e]
  split
  · simp
  · simp [ht]
theorem time_text {n : Int} (h1 : -604800 < n) (h2 : n < 604800) : timeP (textP n) = some n := by
  have hs := sec_nat (a := n.natAbs) (by omega)
  have hne := textP_ne h1 h2
  unfold timeP
  rw [if_neg hne]
  by_cases hn : n < 0
  · have e : textP n = 45 :: natP n.natAbs := by unfold textP; rw [if_pos hn]; rfl
    rw [e, if_pos (by simp)]
    simp only [List.drop_succ_cons, List.drop_zero]
    rw [hs]
    exact congrArg some (show -((n.natAbs : Nat) : Int) = n by omega)
  · have e : textP n = natP n.natAbs := by unfold textP; rw [if_neg hn]; rfl
    obtain ⟨d, t, hd, e2, ht⟩ := natP_head (a := n.natAbs) (by omega)
    rw [e, if_neg]
    · rw [hs]; exact congrArg some (show ((n.natAbs : Nat) : Int) = n by omega)
    · rw [e2]
      rintro ⟨u, hu⟩
      simp at hu
      exact dg_ne hd (.inl (by decide)) hu.1.symm
theorem natP_last {a : Nat} (h : a < 604800) : ∃ d q, q < 10 ∧ natP a = d ++ [dg q] ∧ 1 ≤ d.length := by
  unfold natP
  by_cases hz : 0 < a % 60
  · rw [if_pos hz]
    exact ⟨hourP (a / 3600) ++ pairP (a / 60 % 60) ++ [58, dg (a % 60 / 10)], a % 60 % 10, by omega, by simp [pairP], by simp; omega⟩
  · rw [if_neg hz]
    exact ⟨hourP (a / 3600) ++ [58, dg (a / 60 % 60 / 10)], a / 60 % 60 % 10, by omega, by simp [pairP], by simp⟩
theorem textP_last {n : Int} (h1 : -604800 < n) (h2 : n < 604800) : ∃ d q, q < 10 ∧ textP n = d ++ [dg q] ∧ 1 ≤ d.length := by
  obtain ⟨d, q, hq, e, hd⟩ := natP_last (a := n.natAbs) (by omega)
  refine ⟨(if n < 0 then [45] else []) ++ d, q, hq, by unfold textP; rw [e]; simp, by simp; omega⟩
theorem suf_text {n k : Int} (h1 : -604800 < n) (h2 : n < 604800) (hk : k = 0 ∨ k = 1 ∨ k = 2) : sufP (textP n ++ kindP k) = (textP n, k) := by
  obtain ⟨d, q, hq, e, hd⟩ := textP_last h1 h2
  have hlen : 1 ≤ (textP n).length := by rw [e]; simp
  rcases hk with rfl | rfl | rfl
  · have ek : kindP 0 = [] := rfl
    rw [ek, List.append_nil, e, suf_snoc d _ hd, if_neg (dg_ne hq (.inr (by decide))), if_neg (dg_ne hq (.inr (by decide))), if_neg (dg_ne hq (.inr (by decide))), if_neg (dg_ne hq (.inr (by decide))), if_neg (dg_ne hq (.inr (by decide)))]
  · have ek : kindP 1 = [115] := rfl
    rw [ek, suf_snoc _ _ hlen]; rfl
  · have ek : kindP 2 = [117] := rfl
    rw [ek, suf_snoc _ _ hlen]; rfl
theorem parse_show {n k : Int} (h1 : -604800 < n) (h2 : n < 604800) (hk : k = 0 ∨ k = 1 ∨ k = 2) : parseP (textP n ++ kindP k) = some (n, k) := by
  unfold parseP
  rw [suf_text h1 h2 hk]
  simp only
  rw [if_neg (fun h => textP_ne h1 h2 h.1), time_text h1 h2]
  rfl
theorem suf_kind (s : List UInt8) : (sufP s).2 = 0 ∨ (sufP s).2 = 1 ∨ (sufP s).2 = 2 := by
  by_cases h : s.length < 2
  · rw [suf_short h]; exact .inl rfl
  · obtain ⟨d, c, rfl, hd⟩ := snoc_cases s (by omega)
    rw [suf_snoc d c hd]
    repeat' split
    all_goals simp
theorem parse_in {s : List UInt8} {n k : Int} (h : parseP s = some (n, k)) : -604800 < n ∧ n < 604800 ∧ (k = 0 ∨ k = 1 ∨ k = 2) := by
  unfold parseP at h
  split at h
  · cases h
  · cases ht : timeP (sufP s).1 with
    | none => rw [ht] at h; cases h
    | some v =>
      rw [ht] at h
      have := timeP_le ht
      have hk := suf_kind s
      have e := Option.some.inj h
      simp only [Prod.mk.injEq] at e
      obtain ⟨rfl, rfl⟩ := e
      exact ⟨by omega, by omega, hk⟩
theorem amount_text {n : Int} (h1 : ¬ n < -86400) (h2 : ¬ 86400 < n) : amountP (textP n) = some n := by
  unfold amountP
  rw [time_text (by omega) (by omega)]
  simp only
  rw [if_neg (by rintro (h | h); exact h2 h; exact h1 h)]
end Go.Proofs.YtbccdlbibcbcfaaDoor.D
