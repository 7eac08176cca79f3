/-
  Show and ShowAmount, the program's and the document's; the law ClockShows.
-/
import Derived.Test.YtbccdlbibcbcfaaDoorCb
namespace Go.Proofs.YtbccdlbibcbcfaaDoor.D
open Go.RowKit
set_option linter.unusedVariables false
set_option linter.unusedSimpArgs false
def showR (n k : Int) : Value := match showP n k with | some t => .tuple #[S t, .int .i64 0] | none => .tuple #[S [], .int .i64 1]
def showAmountR (n : Int) : Value := match showAmountP n with | some t => .tuple #[S t, .int .i64 0] | none => .tuple #[S [], .int .i64 1]
theorem show_out {n k : Int} (h : n ≤ -604800 ∨ 604800 ≤ n ∨ k < 0 ∨ 2 < k) : showR n k = .tuple #[S [], .int .i64 1] := by
  unfold showR showP; rw [if_pos h]
theorem show_in {n k : Int} (h : ¬ (n ≤ -604800 ∨ 604800 ≤ n ∨ k < 0 ∨ 2 < k)) : showR n k = .tuple #[S (textP n ++ kindP k), .int .i64 0] := by
  unfold showR showP; rw [if_neg h]
theorem showA_out {n : Int} (h : n < -86400 ∨ 86400 < n) : showAmountR n = .tuple #[S [], .int .i64 1] := by
  unfold showAmountR showAmountP; rw [if_pos h]
theorem showA_in {n : Int} (h : ¬ (n < -86400 ∨ 86400 < n)) : showAmountR n = .tuple #[S (textP n), .int .i64 0] := by
  unfold showAmountR showAmountP; rw [if_neg h]
/-- With the bounds as what they may be. -/
def cshB (O : Orc) (K L : Int) (a0 : Value) (m : Mem) : Option Out :=
if known a0 = true then letK ((m).push ⟨0, (Value.cells a0).toList⟩) fun m0 =>
(vFieldAddr 0 (.pointer (some ⟨(m).next, 0, none⟩))).bind fun v1 =>
(vLd 1 false v1 m0).bind fun v2 =>
(aBin .leq v2 (.int .i64 L)).bind fun v3 =>
br v3 (
some ⟨.ret, [.tuple [(S []), (.int .i64 (1))].toArray], m0, []⟩) (
(vFieldAddr 0 (.pointer (some ⟨(m).next, 0, none⟩))).bind fun v4 =>
(vLd 1 false v4 m0).bind fun v5 =>
(aBin .geq v5 (.int .i64 K)).bind fun v6 =>
br v6 (
some ⟨.ret, [.tuple [(S []), (.int .i64 (1))].toArray], m0, []⟩) (
(vFieldAddr 1 (.pointer (some ⟨(m).next, 0, none⟩))).bind fun v7 =>
(vLd 1 false v7 m0).bind fun v8 =>
(aBin .lss v8 (.int .i64 (0))).bind fun v9 =>
br v9 (
some ⟨.ret, [.tuple [(S []), (.int .i64 (1))].toArray], m0, []⟩) (
(vFieldAddr 1 (.pointer (some ⟨(m).next, 0, none⟩))).bind fun v10 =>
(vLd 1 false v10 m0).bind fun v11 =>
(aBin .gtr v11 (.int .i64 (2))).bind fun v12 =>
br v12 (
some ⟨.ret, [.tuple [(S []), (.int .i64 (1))].toArray], m0, []⟩) (
(vFieldAddr 0 (.pointer (some ⟨(m).next, 0, none⟩))).bind fun v13 =>
(vLd 1 false v13 m0).bind fun v14 =>
retK (O (.call 21) [v14] ((m0).floor (m0).next) []) (fun v15 m16 =>
(aBuild [(0, 1), (1, 1), (2, 1)] [(S []), (S []), (S [])] [(0, (S [])), (1, (S [115])), (2, (S [117]))]).bind fun v18 =>
(vFieldAddr 1 (.pointer (some ⟨(m).next, 0, none⟩))).bind fun v19 =>
(vLd 1 false v19 (m16.floor (m0).lo)).bind fun v20 =>
(aElem false 3 1 v18 v20).bind fun v21 =>
(aBin .add v15 v21).bind fun v22 =>
some ⟨.ret, [.tuple [v22, (.int .i64 (0))].toArray], (m16.floor (m0).lo), []⟩) (fun p17 m23 => none))))) else none
def rshB (O : Orc) (K L : Int) (a0 : Value) (m : Mem) : Option Out :=
if known a0 = true then letK ((m).push ⟨0, (Value.cells a0).toList⟩) fun m0 =>
(vFieldAddr 0 (.pointer (some ⟨(m).next, 0, none⟩))).bind fun v1 =>
(vLd 1 false v1 m0).bind fun v2 =>
(aBin .lss v2 (.int .i64 L)).bind fun v3 =>
br v3 (
some ⟨.ret, [.tuple [(S []), (.int .i64 (1))].toArray], m0, []⟩) (
(vFieldAddr 0 (.pointer (some ⟨(m).next, 0, none⟩))).bind fun v4 =>
(vLd 1 false v4 m0).bind fun v5 =>
(aBin .gtr v5 (.int .i64 K)).bind fun v6 =>
br v6 (
some ⟨.ret, [.tuple [(S []), (.int .i64 (1))].toArray], m0, []⟩) (
(vFieldAddr 1 (.pointer (some ⟨(m).next, 0, none⟩))).bind fun v7 =>
(vLd 1 false v7 m0).bind fun v8 =>
(aBin .lss v8 (.int .i64 (0))).bind fun v9 =>
br v9 (
some ⟨.ret, [.tuple [(S []), (.int .i64 (1))].toArray], m0, []⟩) (
(vFieldAddr 1 (.pointer (some ⟨(m).next, 0, none⟩))).bind fun v10 =>
(vLd 1 false v10 m0).bind fun v11 =>
(aBin .gtr v11 (.int .i64 (2))).bind fun v12 =>
br v12 (
some ⟨.ret, [.tuple [(S []), (.int .i64 (1))].toArray], m0, []⟩) (
(vFieldAddr 0 (.pointer (some ⟨(m).next, 0, none⟩))).bind fun v13 =>
(vLd 1 false v13 m0).bind fun v14 =>
retK (O (.call 22) [v14] ((m0).floor (m0).next) []) (fun v15 m16 =>
(vLit 1 3 [(S [])] [(0, (S [])), (1, (S [115])), (2, (S [117]))] (m16.floor (m0).lo)).bind fun r18 =>
(vFieldAddr 1 (.pointer (some ⟨(m).next, 0, none⟩))).bind fun v19 =>
(vLd 1 false v19 r18.2).bind fun v20 =>
(vIdx 1 r18.1 v20).bind fun v21 =>
(vLd 1 false v21 r18.2).bind fun v22 =>
(aBin .add v15 v22).bind fun v23 =>
some ⟨.ret, [.tuple [v23, (.int .i64 (0))].toArray], r18.2, []⟩) (fun p17 m24 => none))))) else none
abbrev at2 (n k : Int) : Value := .agg #[.int .i64 n, .int .i64 k]
@[simp] theorem known_at2 (n k : Int) : known (at2 n k) = true := rfl
@[simp] theorem cells_at2 (n k : Int) : (at2 n k).cells = #[.int .i64 n, .int .i64 k] := rfl
def arr3 : Value := .agg #[S [], S [115], S [117]]
theorem arr3_b : aBuild [(0, 1), (1, 1), (2, 1)] [(S []), (S []), (S [])] [(0, (S [])), (1, (S [115])), (2, (S [117]))] = some arr3 := rfl
theorem kind_cases {k : Int} (h0 : ¬ k < 0) (h2 : ¬ 2 < k) : k = 0 ∨ k = 1 ∨ k = 2 := by omega
theorem arr3_at {k : Int} (h0 : ¬ k < 0) (h2 : ¬ 2 < k) : aElem false 3 1 arr3 (.int .i64 k) = some (S (kindP k)) := by
  rcases kind_cases h0 h2 with rfl | rfl | rfl <;> rfl
theorem lit3 (m : Mem) : vLit 1 3 [(S [])] [(0, (S [])), (1, (S [115])), (2, (S [117]))] m = some (fz 1 true [[S []], [S [115]], [S [117]]], m) := rfl
theorem lit3_at {k : Int} (h0 : ¬ k < 0) (h2 : ¬ 2 < k) (m : Mem) : ((vIdx 1 (fz 1 true [[S []], [S [115]], [S [117]]]) (.int .i64 k)).bind fun v => vLd 1 false v m) = some (S (kindP k)) := by
  rcases kind_cases h0 h2 with rfl | rfl | rfl <;> rfl
theorem kindP_len (k : Int) : (kindP k).length ≤ 1 := by
  unfold kindP
  split
  · simp
  · split <;> simp
theorem cshB_out {K L n k : Int} (m m' : Mem) (ho : n ≤ L ∨ K ≤ n ∨ k < 0 ∨ 2 < k) : (cshB (LV CV) K L (at2 n k) m).bind (close m') = some ⟨.ret, [.tuple #[S [], .int .i64 1]], m', []⟩ := by
  by_cases h1 : n ≤ L
  · simp [cshB, h1]
  · by_cases h2 : K ≤ n
    · simp [cshB, h1, h2]
    · by_cases h3 : k < 0
      · simp [cshB, h1, h2, h3]
      · have h4 : 2 < k := by rcases ho with h | h | h | h; exact absurd h h1; exact absurd h h2; exact absurd h h3; exact h
        simp [cshB, h1, h2, h3, h4]
theorem cshB_in {K L n k : Int} {T : List UInt8} (hT : T.length ≤ 1000) (m m' : Mem) (h : ∀ m, LV CV (.call 21) [.int .i64 n] m [] = some ⟨.ret, [S T], m, []⟩) (ho : ¬ (n ≤ L ∨ K ≤ n ∨ k < 0 ∨ 2 < k)) : (cshB (LV CV) K L (at2 n k) m).bind (close m') = some ⟨.ret, [.tuple #[S (T ++ kindP k), .int .i64 0]], m', []⟩ := by
  have h1 : ¬ n ≤ L := fun h => ho (.inl h)
  have h2 : ¬ K ≤ n := fun h => ho (.inr (.inl h))
  have h3 : ¬ k < 0 := fun h => ho (.inr (.inr (.inl h)))
  have h4 : ¬ 2 < k := fun h => ho (.inr (.inr (.inr h)))
  have ha := arr3_at h3 h4
  have hl := kindP_len k
  have hb : T.length + (kindP k).length ≤ 4611686018427387904 := by omega
  generalize kindP k = X at *
  simp [cshB, h1, h2, h3, h4, h, arr3_b, ha, hb]
theorem rshB_out {K L n k : Int} (m m' : Mem) (ho : n < L ∨ K < n ∨ k < 0 ∨ 2 < k) : (rshB (LV CV) K L (at2 n k) m).bind (close m') = some ⟨.ret, [.tuple #[S [], .int .i64 1]], m', []⟩ := by
  by_cases h1 : n < L
  · simp [rshB, h1]
  · by_cases h2 : K < n
    · simp [rshB, h1, h2]
    · by_cases h3 : k < 0
      · simp [rshB, h1, h2, h3]
      · have h4 : 2 < k := by rcases ho with h | h | h | h; exact absurd h h1; exact absurd h h2; exact absurd h h3; exact h
        simp [rshB, h1, h2, h3, h4]
theorem rshB_in {K L n k : Int} {T : List UInt8} (hT : T.length ≤ 1000) (m m' : Mem) (h : ∀ m, LV CV (.call 22) [.int .i64 n] m [] = some ⟨.ret, [S T], m, []⟩) (ho : ¬ (n < L ∨ K < n ∨ k < 0 ∨ 2 < k)) : (rshB (LV CV) K L (at2 n k) m).bind (close m') = some ⟨.ret, [.tuple #[S (T ++ kindP k), .int .i64 0]], m', []⟩ := by
  have h1 : ¬ n < L := fun h => ho (.inl h)
  have h2 : ¬ K < n := fun h => ho (.inr (.inl h))
  have h3 : ¬ k < 0 := fun h => ho (.inr (.inr (.inl h)))
  have h4 : ¬ 2 < k := fun h => ho (.inr (.inr (.inr h)))
  have hl := kindP_len k
  have hb : T.length + (kindP k).length ≤ 4611686018427387904 := by omega
  have hb0 : T.length ≤ 4611686018427387904 := by omega
  have hb1 : T.length ≤ 4611686018427387903 := by omega
  have hb2 : T.length + 1 ≤ 4611686018427387904 := by omega
  rcases kind_cases h3 h4 with rfl | rfl | rfl
  · have e : kindP 0 = [] := rfl
    rw [e] at hb ⊢
    simp only [List.length_nil] at hb
    simp [rshB, h1, h2, h, lit3, hb0, hb1, hb2]
  · have e : kindP 1 = [115] := rfl
    rw [e] at hb ⊢
    simp only [List.length_cons, List.length_nil] at hb
    simp [rshB, h1, h2, h, lit3, hb0, hb1, hb2]
  · have e : kindP 2 = [117] := rfl
    rw [e] at hb ⊢
    simp only [List.length_cons, List.length_nil] at hb
    simp [rshB, h1, h2, h, lit3, hb0, hb1, hb2]
theorem natP_len {a : Nat} (h : a < 604800) : (natP a).length ≤ 9 := by
  have := dd_len3 (n := a / 3600) (by omega)
  unfold natP hourP
  split <;> simp [pairP] <;> omega
theorem textP_len {n : Int} (h1 : -604800 < n) (h2 : n < 604800) : (textP n).length ≤ 10 := by
  have := natP_len (a := n.natAbs) (by omega)
  unfold textP
  split <;> simp <;> omega
theorem show_V (n k : Int) (m : Mem) : LV CV (.call 13) [at2 n k] m [] = some ⟨.ret, [showR n k], m, []⟩ := by
  by_cases ho : n ≤ -604800 ∨ 604800 ≤ n ∨ k < 0 ∨ 2 < k
  · rw [show_out ho]
    exact R13 (cshB_out _ m ho)
  · rw [show_in ho]
    have a1 : -604800 < n := Int.not_le.1 fun h => ho (.inl h)
    have a2 : n < 604800 := Int.not_le.1 fun h => ho (.inr (.inl h))
    have := textP_len a1 a2
    exact R13 (cshB_in (by omega) _ m (fun m => text_V a1 a2 m) ho)
theorem rshow_V (n k : Int) (m : Mem) : LV CV (.call 15) [at2 n k] m [] = some ⟨.ret, [showR n k], m, []⟩ := by
  by_cases ho : n < -604799 ∨ 604799 < n ∨ k < 0 ∨ 2 < k
  · rw [show_out (by rcases ho with h | h | h | h; exact .inl (by omega); exact .inr (.inl (by omega)); exact .inr (.inr (.inl h)); exact .inr (.inr (.inr h)))]
    exact R15 (rshB_out _ m ho)
  · have a1 : ¬ n < -604799 := fun h => ho (.inl h)
    have a2 : ¬ 604799 < n := fun h => ho (.inr (.inl h))
    rw [show_in (by rintro (h | h | h | h); exact a1 (by omega); exact a2 (by omega); exact ho (.inr (.inr (.inl h))); exact ho (.inr (.inr (.inr h))))]
    have b1 : -604800 < n := by omega
    have b2 : n < 604800 := by omega
    have := textP_len b1 b2
    exact R15 (rshB_in (by omega) _ m (fun m => shown_V b1 b2 m) ho)
end Go.Proofs.YtbccdlbibcbcfaaDoor.D
