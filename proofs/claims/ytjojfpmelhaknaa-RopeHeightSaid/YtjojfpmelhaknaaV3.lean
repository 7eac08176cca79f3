/-
  The second reading: its operations answer what those of the first answer.
-/
import Derived.Test.YtjojfpmelhaknaaV2
namespace Go.Proofs.Ytjojfpmelhaknaa.D
open Go.RowKit
set_option linter.unusedVariables false
set_option linter.unusedSimpArgs false
section
variable {ι : Im} {Φ : Pin} {m dm : Mem}
/-- Ans answer that leaves memory as it is. -/
def Ans (ι : Im) (Φ : Pin) (v : Value) (x : Option Value) : Prop := ∃ d, x = some d ∧ R ι Φ v d
theorem bound_R {u d : Value} {y n : Nat} (h : R ι Φ u d) (hb : aBound u y = some n) : aBound d y = some n := by
  unfold aBound at hb ⊢
  cases hi : int? u with
  | none => rw [hi] at hb; cases hb
  | some p => rw [hi] at hb; rw [h.int? hi]; exact hb
def OR2 (ι : Im) (Φ : Pin) : Option Value → Option Value → Prop
  | none, none => True
  | some u, some d => R ι Φ u d
  | _, _ => False
theorem OR2.map {ρ dρ : Operand → Value} (h : ∀ x, R ι Φ (ρ x) (dρ x)) (o : Option Operand) : OR2 ι Φ (o.map ρ) (o.map dρ) := by cases o with | none => trivial | some x => exact h x
theorem hi_R {u d : Option Value} {y n : Nat} (h : OR2 ι Φ u d) (hb : aHi u y = some n) : aHi d y = some n := by
  cases u <;> cases d <;> first | exact hb | exact h.elim | exact bound_R h hb
theorem lo_R {u d : Option Value} {y n : Nat} (h : OR2 ι Φ u d) (hb : aLo u y = some n) : aLo d y = some n := by
  cases u <;> cases d <;> first | exact hb | exact h.elim | exact bound_R h hb
theorem bound_le {u : Value} {y n : Nat} (hb : aBound u y = some n) : n ≤ y := by
  unfold aBound at hb
  cases hi : int? u with
  | none => rw [hi] at hb; cases hb
  | some p =>
    rw [hi] at hb
    simp only [Option.bind_some] at hb
    split at hb
    · split at hb
      · cases hb; omega
      · cases hb
    · cases hb
theorem hi_le {u : Option Value} {y n : Nat} (hb : aHi u y = some n) : n ≤ y := by cases u with | none => cases hb; exact Nat.le_refl _ | some u => exact bound_le hb
theorem lo_le {u : Option Value} {y n : Nat} (hb : aLo u y = some n) : n ≤ y := by cases u with | none => cases hb; exact Nat.zero_le _ | some u => exact bound_le hb
theorem bind_an {α : Type} {x : Option α} {f g : α → Option Value} {v : Value} (h : x.bind f = some v) (k : ∀ a, x = some a → f a = some v → Ans ι Φ v (g a)) : Ans ι Φ v (x.bind g) := by
  cases x with
  | none => cases h
  | some a => exact k a rfl h
/-! ### Numbers, truths, texts -/
theorem aBin_base {op : BinOp} {u v x : Value} (h : aBin op u v = some x) : base u = true ∧ base v = true ∧ base x = true := by
  unfold aBin at h
  split at h
  · refine ⟨rfl, rfl, ?_⟩
    split at h
    · unfold shB at h
      split at h
      · cases h
      · split at h <;> first | (cases h; rfl) | cases h
    · split at h
      · unfold iBin at h
        split at h <;> first | (cases h; rfl) | (split at h <;> first | (cases h; rfl) | cases h) | cases h
      · cases h
  · refine ⟨rfl, rfl, ?_⟩
    unfold sBin at h
    split at h <;> first | (cases h; rfl) | (split at h <;> first | (cases h; rfl) | cases h) | cases h
  · cases h
theorem aBin_R {op : BinOp} {u v u' v' x : Value} (h1 : R ι Φ u u') (h2 : R ι Φ v v') (h : aBin op u v = some x) : Ans ι Φ x (aBin op u' v') := by
  obtain ⟨a, b, c⟩ := aBin_base h
  rw [h1.of_base a, h2.of_base b]
  exact ⟨x, h, .base c⟩
theorem aUn_R {op : UnOp} {u u' x : Value} (h1 : R ι Φ u u') (h : aUn op u = some x) : Ans ι Φ x (aUn op u') := by
  have : base u = true ∧ base x = true := by
    unfold aUn at h
    split at h <;> first | (cases h; exact ⟨rfl, rfl⟩) | cases h
  rw [h1.of_base this.1]
  exact ⟨x, h, .base this.2⟩
theorem aEqB_R {n : Bool} {u v u' v' x : Value} (h1 : R ι Φ u u') (h2 : R ι Φ v v') (h : aEqB n u v = some x) : Ans ι Φ x (aEqB n u' v') := by
  unfold aEqB at h ⊢
  cases ha : bool? u with
  | none => rw [ha] at h; cases h
  | some a =>
    cases hb : bool? v with
    | none => rw [ha, hb] at h; cases h
    | some b =>
      rw [ha, hb] at h
      rw [h1.bool? ha, h2.bool? hb]
      cases h
      exact ⟨_, rfl, .base rfl⟩
theorem lr_bases {l l' : List Value} (hb : ∀ v ∈ l, D.base v = true) (h : LR ι Φ l l') : l' = l := by
  induction l generalizing l' with
  | nil => exact h.nil_inv
  | cons a t ih =>
    obtain ⟨v, t', rfl, h1, h2⟩ := h.cons_inv
    rw [h1.of_base (hb a (by simp)), ih (fun x hx => hb x (by simp [hx])) h2]
theorem aEqS_R {n : Bool} {ks : List CK} {u v u' v' x : Value} (h1 : R ι Φ u u') (h2 : R ι Φ v v') (h : aEqS n ks u v = some x) : Ans ι Φ x (aEqS n ks u' v') := by
  unfold aEqS at h ⊢
  cases ha : agg? u with
  | none => rw [ha] at h; cases h
  | some a =>
    cases hb : agg? v with
    | none => rw [ha, hb] at h; cases h
    | some b =>
      rw [ha, hb] at h
      obtain ⟨a', e1, e2⟩ := h1.agg? ha
      obtain ⟨b', e3, e4⟩ := h2.agg? hb
      rw [e1, e3]
      simp only [Option.bind_some] at h ⊢
      cases hq : eqL ks a b with
      | none => rw [hq] at h; cases h
      | some r =>
        obtain ⟨b1, b2, _⟩ := eqL_base hq
        rw [lr_bases b1 e2, lr_bases b2 e4, hq]
        rw [hq] at h
        cases h
        exact ⟨_, rfl, .base rfl⟩
theorem aInt_R {k : IntKind} {u u' x : Value} (h1 : R ι Φ u u') (h : aInt k u = some x) : Ans ι Φ x (aInt k u') := by
  unfold aInt at h ⊢
  cases ha : int? u with
  | none => rw [ha] at h; cases h
  | some a => rw [ha] at h; rw [h1.int? ha]; cases h; exact ⟨_, rfl, .base rfl⟩
theorem aSame_R {u u' x : Value} (h1 : R ι Φ u u') (h : aSame u = some x) : Ans ι Φ x (aSame u') := by
  unfold aSame at h ⊢
  cases ha : str? u with
  | none => rw [ha] at h; cases h
  | some a => rw [ha] at h; rw [h1.str? ha]; cases h; exact ⟨_, rfl, .base rfl⟩
theorem aLenS_R {u u' x : Value} (h1 : R ι Φ u u') (h : aLenS u = some x) : Ans ι Φ x (aLenS u') := by
  unfold aLenS at h ⊢
  cases ha : str? u with
  | none => rw [ha] at h; cases h
  | some a => rw [ha] at h; rw [h1.str? ha]; cases h; exact ⟨_, rfl, .base rfl⟩
theorem aCutStr_R {u u' x : Value} {lo hi lo' hi' : Option Value} (h1 : R ι Φ u u') (h2 : OR2 ι Φ lo lo') (h3 : OR2 ι Φ hi hi') (h : aCutStr u lo hi = some x) : Ans ι Φ x (aCutStr u' lo' hi') := by
  unfold aCutStr at h ⊢
  cases ha : str? u with
  | none => rw [ha] at h; cases h
  | some s =>
    rw [ha] at h; rw [h1.str? ha]
    simp only [Option.bind_some] at h ⊢
    cases hh : aHi hi s.size with
    | none => rw [hh] at h; cases h
    | some b =>
      rw [hh] at h; rw [hi_R h3 hh]
      simp only [Option.bind_some] at h ⊢
      cases hl : aLo lo b with
      | none => rw [hl] at h; cases h
      | some a => rw [hl] at h; rw [lo_R h2 hl]; cases h; exact ⟨_, rfl, .base rfl⟩
theorem aByte_R {u u' i i' x : Value} (h1 : R ι Φ u u') (h2 : R ι Φ i i') (h : aByte u i = some x) : Ans ι Φ x (aByte u' i') := by
  unfold aByte at h ⊢
  cases ha : str? u with
  | none => rw [ha] at h; cases h
  | some s =>
    cases hi : int? i with
    | none => rw [ha, hi] at h; cases h
    | some p =>
      rw [ha, hi] at h; rw [h1.str? ha, h2.int? hi]
      refine ⟨x, h, ?_⟩
      simp only [Option.bind_some] at h
      split at h
      · cases hb : s[p.2.toNat]? with
        | none => rw [hb] at h; cases h
        | some b => rw [hb] at h; cases h; exact .base rfl
      · cases h
theorem aMax_R {mx : Bool} {xs xs' : List Value} {x : Value} (h1 : LR ι Φ xs xs') (h : aMax mx xs = some x) : Ans ι Φ x (aMax mx xs') := by
  cases xs with
  | nil => cases h
  | cons u t =>
    obtain ⟨u', t', rfl, hu, ht⟩ := h1.cons_inv
    unfold aMax at h ⊢
    simp only at h ⊢
    clear h1
    induction t generalizing t' u u' with
    | nil => rw [ht.nil_inv]; cases h; exact ⟨_, rfl, hu⟩
    | cons w t ih =>
      obtain ⟨w', t'', rfl, hw, ht'⟩ := ht.cons_inv
      simp only [List.foldlM_cons] at h ⊢
      cases hi : int? u with
      | none => rw [hi] at h; cases h
      | some p =>
        cases hj : int? w with
        | none => rw [hi, hj] at h; cases h
        | some q =>
          obtain ⟨k, i⟩ := p; obtain ⟨k', j⟩ := q
          rw [hi, hj] at h
          rw [hu.int? hi, hw.int? hj]
          have hb : R ι Φ (.int k (if mx = true then if j > i then j else i else if j < i then j else i)) (.int k (if mx = true then if j > i then j else i else if j < i then j else i)) := R.base rfl
          first
            | exact ih hb ht' h
            | exact ih t'' hb ht' h
            | exact ih _ _ t'' hb ht' h
            | (apply ih <;> first | exact h | exact hb | exact ht')
/-! ### Structs -/
theorem parts_lr {ρ dρ : Operand → Value} (h : ∀ x, R ι Φ (ρ x) (dρ x)) {places : Nat → Option (Nat × Nat)} : ∀ (ps : List (Nat × Operand)) (l l' r : List Value), LR ι Φ l l' → fillL places l (ps.map fun p => (p.1, ρ p.2)) = some r → ∃ r', fillL places l' (ps.map fun p => (p.1, dρ p.2)) = some r' ∧ LR ι Φ r r' := by
  intro ps
  induction ps with
  | nil => intro l l' r hl hf; cases hf; exact ⟨_, rfl, hl⟩
  | cons p t ih =>
    intro l l' r hl hf
    obtain ⟨i, x⟩ := p
    simp only [List.map_cons] at hf ⊢
    unfold fillL at hf ⊢
    split at hf
    · cases hf
    · rename_i off size hp
      split at hf
      · rename_i hc
        obtain ⟨c1, c2, c3⟩ := hc
        have hcell := (h x).cells c1
        have hn : (dρ x).cells.size = size := by
          have := hcell.1
          simp only [Array.length_toList] at this
          omega
        rw [if_pos ⟨(h x).known c1, hn, by rw [← hl.1]; exact c3⟩]
        exact ih _ _ r (putL_lr hl hcell off (by simp only [Array.length_toList]; omega)) hf
      · cases hf
theorem aBuild_R {ρ dρ : Operand → Value} (h : ∀ x, R ι Φ (ρ x) (dρ x)) {places : List (Nat × Nat)} {z : List Value} {ps : List (Nat × Operand)} {v : Value} (hz : z.all base = true) (hv : aBuild places z (ps.map fun p => (p.1, ρ p.2)) = some v) : Ans ι Φ v (aBuild places z (ps.map fun p => (p.1, dρ p.2))) := by
  unfold aBuild at hv ⊢
  cases hf : fillL (fun x => places[x]?) z (ps.map fun p => (p.1, ρ p.2)) with
  | none => rw [hf] at hv; cases hv
  | some l =>
    rw [hf] at hv
    cases hv
    obtain ⟨l', a, b⟩ := parts_lr h ps z z l (.bases hz) hf
    rw [a]
    exact ⟨_, rfl, .agg_l b⟩
theorem aPart_R {g : Bool} {n off : Nat} {l l' : List Value} {v : Value} (hl : LR ι Φ l l') (h : aPart g n off l = some v) : Ans ι Φ v (aPart g n off l') := by
  unfold aPart at h ⊢
  split at h
  · rename_i hg
    rw [if_pos hg]
    split at h
    · cases h
      rw [if_pos (by rw [← hl.1]; assumption)]
      exact ⟨_, rfl, .agg_l ((hl.drop off).take n)⟩
    · cases h
  · rename_i hg
    rw [if_neg hg]
    exact hl.get h
theorem aField_R {g : Bool} {n off : Nat} {u u' v : Value} (h1 : R ι Φ u u') (h : aField g n off u = some v) : Ans ι Φ v (aField g n off u') := by
  unfold aField at h ⊢
  cases ha : agg? u with
  | none => rw [ha] at h; cases h
  | some l => obtain ⟨l', a, b⟩ := h1.agg? ha; rw [ha] at h; rw [a]; exact aPart_R b h
theorem aElem_R {g : Bool} {n sz : Nat} {u u' i i' v : Value} (h1 : R ι Φ u u') (h2 : R ι Φ i i') (h : aElem g n sz u i = some v) : Ans ι Φ v (aElem g n sz u' i') := by
  unfold aElem at h ⊢
  cases ha : agg? u with
  | none => rw [ha] at h; cases h
  | some l =>
    cases hi : int? i with
    | none => rw [ha, hi] at h; cases h
    | some p =>
      obtain ⟨l', a, b⟩ := h1.agg? ha
      rw [ha, hi] at h; rw [a, h2.int? hi]
      simp only [Option.bind_some] at h ⊢
      split at h
      · rw [if_pos ‹_›]
        split at h
        · rw [if_pos ‹_›]; exact aPart_R b h
        · cases h
      · cases h
theorem aExtract_R {i : Nat} {u u' v : Value} (h1 : R ι Φ u u') (h : aExtract i u = some v) : Ans ι Φ v (aExtract i u') := by
  unfold aExtract at h ⊢
  cases ha : tup? u with
  | none => rw [ha] at h; cases h
  | some l => obtain ⟨l', a, b⟩ := h1.tup? ha; rw [ha] at h; rw [a]; exact b.get h
theorem vAssert_R {t : TypeId} {ok : Bool} {z u u' v : Value} (hz : constOk z = true) (h1 : R ι Φ u u') (h : vAssert t ok z u = some v) : Ans ι Φ v (aAssert t ok z u') := by
  unfold vAssert at h
  split at h
  · cases h
  · rename_i htag
    unfold aAssert at h
    split at h
    · rename_i t' w
      have ht : tagged t' = false := by simpa [isTag] using htag
      obtain ⟨w', rfl, hw⟩ := h1.of_iface ht
      unfold aAssert
      simp only
      split at h
      · rw [if_pos ‹_›]
        cases h
        refine ⟨_, rfl, ?_⟩
        split
        · exact R.tuple_l (l := [w, .bool true]) (l' := [w', .bool true]) (.cons hw (.cons (.base rfl) .nil))
        · exact hw
      · rw [if_neg ‹_›]
        split at h
        · rw [if_pos ‹_›]
          cases h
          exact ⟨_, rfl, R.tuple_l (l := [z, .bool false]) (l' := [z, .bool false]) (.cons (constOk_R hz) (.cons (.base rfl) .nil))⟩
        · cases h
    · rw [h1.of_base rfl]
      unfold aAssert
      simp only
      split at h
      · rw [if_pos ‹_›]
        cases h
        exact ⟨_, rfl, R.tuple_l (l := [z, .bool false]) (l' := [z, .bool false]) (.cons (constOk_R hz) (.cons (.base rfl) .nil))⟩
      · cases h
    · cases h
/-! ### What is fixed -/
theorem vflat_len {sz : Nat} : ∀ {els : List (List Value)}, (∀ e ∈ els, e.length = sz) → els.flatten.length = els.length * sz := by
  intro els
  induction els with
  | nil => intro _; simp
  | cons e t ih =>
    intro h
    simp only [List.flatten_cons, List.length_append, List.length_cons, ih (fun x hx => h x (by simp [hx])), h e (by simp), Nat.add_mul]
    omega
theorem vflat_get {sz : Nat} : ∀ {els : List (List Value)} {k : Nat} {x : Value}, (∀ e ∈ els, e.length = sz) → els.flatten[k]? = some x → ∃ i e j, k = i * sz + j ∧ els[i]? = some e ∧ e[j]? = some x := by
  intro els
  induction els with
  | nil => intro k x _ h; simp at h
  | cons e t ih =>
    intro k x hl h
    simp only [List.flatten_cons] at h
    have he := hl e (by simp)
    by_cases hk : k < e.length
    · rw [List.getElem?_append_left hk] at h
      exact ⟨0, e, k, by simp, rfl, h⟩
    · rw [List.getElem?_append_right (by omega)] at h
      obtain ⟨i, e', j, a, b, c⟩ := ih (fun x hx => hl x (by simp [hx])) h
      exact ⟨i + 1, e', j, by rw [Nat.add_mul]; omega, by simpa using b, c⟩
theorem fz_flat {sz off : Nat} {els : List (List Value)} {r : Row} (hl : ∀ e ∈ els, e.length = sz) (hb : off + els.length * sz ≤ r.cells.length) (hel : ∀ (i : Nat) e (j : Nat) x y, els[i]? = some e → e[j]? = some x → r.cells[off + i * sz + j]? = some y → FR Φ x y) :
    LR ι Φ els.flatten ((r.cells.drop off).take (els.length * sz)) := by
  refine FR.lr (by rw [vflat_len hl]; simp; omega) (fun k x y a b => ?_)
  obtain ⟨i, e, j, h1, h2, h3⟩ := vflat_get hl a
  rw [List.getElem?_take] at b
  split at b
  · rw [List.getElem?_drop] at b
    exact hel i e j x y h2 h3 (by rw [← b, h1, Nat.add_assoc])
  · cases b
theorem FR.cut {q off c n sz : Nat} {els : List (List Value)} {tt : Bool} {r : Row} (hq : Φ q = some r) (hs : unit r.sz = sz) (hl : ∀ e ∈ els, e.length = sz) (hb : off + els.length * sz ≤ r.cells.length)
    (hel : ∀ (i : Nat) e (j : Nat) x y, els[i]? = some e → e[j]? = some x → r.cells[off + i * sz + j]? = some y → FR Φ x y) {l h : Nat} (h1 : l ≤ h) (h2 : h ≤ els.length) (ht : tt = true → c = h - l) :
    FR Φ (Go.Proofs.Ytjojfpmelhaknaa.D.fz sz tt ((els.take h).drop l)) (.slice (some ⟨q, off + l * sz, none⟩) (h - l) c) := by
  refine .fz (fz?_fz _ _ _) hq (by simp; omega) hs ht (fun e he => hl e (List.mem_of_mem_take (List.mem_of_mem_drop he))) ?_ ?_
  · have : l * sz + (h - l) * sz = h * sz := by rw [← Nat.add_mul]; congr 1; omega
    have : h * sz ≤ els.length * sz := Nat.mul_le_mul_right _ h2
    omega
  · intro i e j x y a b d
    rw [List.getElem?_drop, List.getElem?_take] at a
    split at a
    · exact hel (l + i) e j x y a b (by rw [← d]; congr 1; rw [Nat.add_mul]; omega)
    · cases a
theorem isTag_fz' (sz : Nat) (tt : Bool) (els : List (List Value)) : isTag (fz sz tt els) = true := rfl
theorem isTag_fp' (cells : List Value) (off : Nat) : isTag (fp cells off) = true := rfl
theorem vLenL_R {u u' x : Value} (h1 : R ι Φ u u') (h : vLenL u = some x) : Ans ι Φ x (aLenL u') := by
  unfold vLenL at h
  split at h
  · rename_i hz
    obtain ⟨q, off, c, r, rfl, _⟩ := h1.of_fz hz
    cases h
    exact ⟨_, rfl, .base rfl⟩
  · unfold aLenL at h ⊢
    cases hs : slc? u with
    | none => rw [hs] at h; cases h
    | some p =>
      rw [hs] at h
      cases p with
      | nil => rw [h1.slc?_nil hs]; cases h; exact ⟨_, rfl, .base rfl⟩
      | at_ o off n c => obtain ⟨q, _, e, _⟩ := h1.slc?_at hs; rw [e]; cases h; exact ⟨_, rfl, .base rfl⟩
theorem vLd_R (hm : MM ι Φ m dm) {n : Nat} {g : Bool} {u u' x : Value} (h1 : R ι Φ u u') (h : vLd n g u m = some x) : Ans ι Φ x (aLd n g u' dm) := by
  unfold vLd at h
  split at h
  · rename_i cs off hz
    obtain ⟨q, b, r, rfl, hq, hb, hel⟩ := h1.of_fp hz
    have hg := (hm.pin _ _ hq).1
    unfold aLd
    simp only [addr?, Option.bind_some]
    unfold aPart at h
    split at h
    · rename_i hgg
      rw [if_pos hgg]
      split at h
      · rename_i hle
        cases h
        unfold Mem.at_
        rw [hg]
        simp only [Option.bind_some]
        rw [if_pos (by omega)]
        refine ⟨_, rfl, .agg_l (FR.lr (by simp; omega) (fun i x y a c => ?_))⟩
        rw [List.getElem?_take] at a c
        split at a
        · rw [if_pos ‹_›] at c
          rw [List.getElem?_drop] at a c
          exact hel _ x y a (by rw [← c]; congr 1; omega)
        · cases a
      · cases h
    · rename_i hgg
      rw [if_neg hgg]
      unfold Mem.ld
      rw [hg]
      simp only [Option.bind_some]
      have hlt : off < cs.length := (List.getElem?_eq_some_iff.1 h).1
      have h2 : b + off < r.cells.length := by omega
      exact ⟨r.cells[b + off], List.getElem?_eq_getElem h2, (hel off x _ h (List.getElem?_eq_getElem h2)).toR⟩
  · unfold aLd at h ⊢
    cases ha : addr? u with
    | none => rw [ha] at h; cases h
    | some p =>
      obtain ⟨o, off⟩ := p
      obtain ⟨q, ho, e, _⟩ := h1.addr? ha
      rw [ha] at h; rw [e]
      simp only [Option.bind_some] at h ⊢
      split at h
      · rename_i hgg
        rw [if_pos hgg]
        cases hl : m.at_ o off n with
        | none => rw [hl] at h; cases h
        | some l =>
          obtain ⟨l', a, b⟩ := hm.at_ ho hl
          rw [hl] at h; rw [a]
          cases h
          exact ⟨_, rfl, .agg_l b⟩
      · rename_i hgg
        rw [if_neg hgg]
        exact hm.ld ho h
theorem vCheck_R {u u' x : Value} (h1 : R ι Φ u u') (h : vCheck u = some x) : Ans ι Φ x (aCheck u') := by
  unfold vCheck at h
  split at h
  · rename_i hz
    cases h
    obtain ⟨q, b, r, rfl, _⟩ := h1.of_fp hz
    exact ⟨_, rfl, h1⟩
  · unfold aCheck at h
    split at h
    · cases h
      obtain ⟨o, off, q, rfl, _, rfl⟩ := h1.of_ptr
      exact ⟨_, rfl, h1⟩
    · cases h
      obtain ⟨x', y', rfl, _⟩ := h1.of_func
      exact ⟨_, rfl, h1⟩
    · cases h
theorem vIsNil_R {k : NK} {neg : Bool} {u u' x : Value} (h1 : R ι Φ u u') (h : vIsNil k neg u = some x) : Ans ι Φ x (aIsNil k neg u') := by
  unfold vIsNil at h
  have key : ∀ b, vNil k u = some b → aNil k u' = some b := by
    intro b hb
    unfold vNil at hb
    cases k with
    | ptr =>
      simp only at hb
      split at hb
      · rename_i hz
        obtain ⟨p, hz⟩ := Option.isSome_iff_exists.1 hz
        obtain ⟨cs, off⟩ := p
        obtain ⟨q, b', r, rfl, _⟩ := h1.of_fp hz
        cases hb; rfl
      · cases u <;> simp [aNil] at hb
        rename_i a _
        cases a with
        | none => rw [h1.of_base rfl]; subst hb; rfl
        | some a => obtain ⟨o, off, q, rfl, _, rfl⟩ := h1.of_ptr; subst hb; rfl
    | slc =>
      simp only at hb
      split at hb
      · rename_i hz
        obtain ⟨p, hz⟩ := Option.isSome_iff_exists.1 hz
        obtain ⟨sz, tt, els⟩ := p
        obtain ⟨q, off, c, r, rfl, _⟩ := h1.of_fz hz
        cases hb; rfl
      · cases u <;> simp [aNil] at hb
        rename_i a n c _
        cases a with
        | none =>
          cases h1 with
          | base h => subst hb; rfl
          | fro ht _ => simp [isTag] at ht
        | some a => obtain ⟨o, off, q, rfl, _, rfl⟩ := h1.of_slice; subst hb; rfl
    | fn =>
      simp only at hb
      cases u <;> simp [aNil] at hb
      · obtain ⟨x', y', rfl, _⟩ := h1.of_func; subst hb; rfl
      · rw [h1.of_base rfl]; subst hb; rfl
    | ifc =>
      simp only at hb
      split at hb
      · cases hb
      · rename_i hp
        split at hb
        · cases hb
        · rename_i hz
          cases u <;> simp [aNil] at hb
          · rename_i t w
            cases h1 with
            | base h => simp [base] at h
            | iface _ h => subst hb; rfl
            | fro ht h =>
              cases h with
              | base h => simp [base] at h
              | fz hv => rw [hv] at hz; simp at hz
              | fp hv => rw [hv] at hp; simp at hp
              | iface ht' => simp [isTag, ht'] at ht
          · rw [h1.of_base rfl]; subst hb; rfl
  unfold aIsNil
  cases hb : vNil k u with
  | none => rw [hb] at h; cases h
  | some b => rw [hb] at h; rw [key b hb]; cases h; exact ⟨_, rfl, .base rfl⟩
theorem vIdx_R {sz : Nat} {u u' i i' x : Value} (h1 : R ι Φ u u') (h2 : R ι Φ i i') (h : vIdx sz u i = some x) : Ans ι Φ x (aIdx sz u' i') := by
  unfold vIdx at h
  split at h
  · rename_i s tt els hz
    obtain ⟨q, off, c, r, rfl, hq, hs, ht, hl, hb, hel⟩ := h1.of_fz hz
    split at h
    · subst_vars
      cases hi : int? i with
      | none => rw [hi] at h; cases h
      | some p =>
        obtain ⟨k, j⟩ := p
        rw [hi] at h
        simp only [Option.bind_some] at h
        unfold aIdx
        simp only [slc?, Option.bind_some, h2.int? hi]
        split at h
        · rw [if_pos ‹_›]
          cases he : els[j.toNat]? with
          | none => rw [he] at h; cases h
          | some e =>
            rw [he] at h
            cases h
            have hlt : j.toNat < els.length := (List.getElem?_eq_some_iff.1 he).1
            rw [if_pos (by omega)]
            refine ⟨_, rfl, .fro rfl (.fp (b := off + j.toNat * unit r.sz) (fp?_fp _ _) hq ?_ (fun i x y a b => hel j.toNat e i x y he a b))⟩
            have e1 := hl e (List.mem_of_getElem? he)
            have e2 : (j.toNat + 1) * unit r.sz ≤ els.length * unit r.sz := Nat.mul_le_mul_right _ hlt
            rw [Nat.add_mul] at e2
            omega
        · cases h
    · cases h
  · unfold aIdx at h ⊢
    cases hs : slc? u with
    | none => rw [hs] at h; cases h
    | some p =>
      rw [hs] at h
      cases p with
      | nil => cases h
      | at_ o off n c =>
        obtain ⟨q, ho, e, _⟩ := h1.slc?_at hs
        rw [e]
        simp only [Option.bind_some] at h ⊢
        cases hi : int? i with
        | none => rw [hi] at h; cases h
        | some p =>
          rw [hi] at h; rw [h2.int? hi]
          simp only [Option.bind_some] at h ⊢
          split at h
          · rw [if_pos ‹_›]
            split at h
            · rw [if_pos ‹_›]; cases h; exact ⟨_, rfl, .ptr ho⟩
            · cases h
          · cases h
theorem vIdxArr_R {n sz : Nat} {u u' i i' x : Value} (h1 : R ι Φ u u') (h2 : R ι Φ i i') (h : vIdxArr n sz u i = some x) : Ans ι Φ x (aIdxArr n sz u' i') := by
  unfold vIdxArr at h
  split at h
  · rename_i cs off hz
    obtain ⟨q, b, r, rfl, hq, hb, hel⟩ := h1.of_fp hz
    unfold aIdxArr
    simp only [addr?, Option.bind_some]
    cases hi : int? i with
    | none => rw [hi] at h; cases h
    | some p =>
      rw [hi] at h; rw [h2.int? hi]
      simp only [Option.bind_some] at h ⊢
      split at h
      · rw [if_pos ‹_›]
        split at h
        · rw [if_pos ‹_›]; cases h
          refine ⟨_, rfl, .fro rfl ?_⟩
          rw [Nat.add_assoc]
          exact .fp (fp?_fp _ _) hq hb hel
        · cases h
      · cases h
  · unfold aIdxArr at h ⊢
    cases ha : addr? u with
    | none => rw [ha] at h; cases h
    | some p =>
      obtain ⟨o, off⟩ := p
      obtain ⟨q, ho, e, _⟩ := h1.addr? ha
      rw [ha] at h; rw [e]
      simp only [Option.bind_some] at h ⊢
      cases hi : int? i with
      | none => rw [hi] at h; cases h
      | some p =>
        rw [hi] at h; rw [h2.int? hi]
        simp only [Option.bind_some] at h ⊢
        split at h
        · rw [if_pos ‹_›]
          split at h
          · rw [if_pos ‹_›]; cases h; exact ⟨_, rfl, .ptr ho⟩
          · cases h
        · cases h
theorem vFieldAddr_R {off : Nat} {u u' x : Value} (h1 : R ι Φ u u') (h : vFieldAddr off u = some x) : Ans ι Φ x (aFieldAddr off u') := by
  unfold vFieldAddr at h
  split at h
  · rename_i cs o hz
    obtain ⟨q, b, r, rfl, hq, hb, hel⟩ := h1.of_fp hz
    cases h
    refine ⟨_, rfl, .fro rfl ?_⟩
    rw [Nat.add_assoc]
    exact .fp (fp?_fp _ _) hq hb hel
  · unfold aFieldAddr at h ⊢
    cases ha : addr? u with
    | none => rw [ha] at h; cases h
    | some p =>
      obtain ⟨o, off'⟩ := p
      obtain ⟨q, ho, e, _⟩ := h1.addr? ha
      rw [ha] at h; rw [e]; cases h
      exact ⟨_, rfl, .ptr ho⟩
theorem vCut_R (hm : MM ι Φ m dm) {sz : Nat} {u u' x : Value} {lo hi lo' hi' : Option Value} (h1 : R ι Φ u u') (h2 : OR2 ι Φ lo lo') (h3 : OR2 ι Φ hi hi') (h : vCut sz u lo hi m = some x) : Ans ι Φ x (aCut sz u' lo' hi' dm) := by
  unfold vCut at h
  split at h
  · rename_i s tt els hz
    obtain ⟨q, off, c, r, rfl, hq, hs, ht, hl, hb, hel⟩ := h1.of_fz hz
    split at h
    · subst_vars
      cases hh : aHi hi els.length with
      | none => rw [hh] at h; cases h
      | some b =>
        rw [hh] at h
        simp only [Option.bind_some] at h
        cases hlo : aLo lo b with
        | none => rw [hlo] at h; cases h
        | some a =>
          rw [hlo] at h
          cases h
          unfold aCut
          simp only [slc?, Option.bind_some, (hm.pin _ _ hq).1, if_true, hi_R h3 hh, lo_R h2 hlo]
          refine ⟨_, rfl, .fro rfl (FR.cut (n := 0) hq rfl hl hb hel (lo_le hlo) (hi_le hh) (fun htt => ?_))⟩
          simp only [Bool.and_eq_true, beq_iff_eq] at htt
          rw [if_pos ⟨ht htt.1, htt.2⟩]
    · cases h
  · unfold aCut at h ⊢
    cases hs : slc? u with
    | none => rw [hs] at h; cases h
    | some p =>
      rw [hs] at h
      cases p with
      | nil =>
        rw [h1.slc?_nil hs]
        simp only [Option.bind_some] at h ⊢
        cases hh : aHi hi 0 with
        | none => rw [hh] at h; cases h
        | some b =>
          rw [hh] at h; rw [hi_R h3 hh]
          simp only [Option.bind_some] at h ⊢
          cases hlo : aLo lo b with
          | none => rw [hlo] at h; cases h
          | some a => rw [hlo] at h; rw [lo_R h2 hlo]; cases h; exact ⟨_, rfl, .base rfl⟩
      | at_ o off n c =>
        obtain ⟨q, ho, e, _⟩ := h1.slc?_at hs
        rw [e]
        simp only [Option.bind_some] at h ⊢
        cases hr : m.get o with
        | none => rw [hr] at h; cases h
        | some r =>
          obtain ⟨dr, a1, a2, _⟩ := hm.live ho hr
          rw [hr] at h; rw [a1]
          simp only [Option.bind_some] at h ⊢
          rw [← a2]
          split at h
          · rw [if_pos ‹_›]
            cases hh : aHi hi n with
            | none => rw [hh] at h; cases h
            | some b =>
              rw [hh] at h; rw [hi_R h3 hh]
              simp only [Option.bind_some] at h ⊢
              cases hlo : aLo lo b with
              | none => rw [hlo] at h; cases h
              | some a => rw [hlo] at h; rw [lo_R h2 hlo]; cases h; exact ⟨_, rfl, .slice ho⟩
          · cases h
theorem vCut3_R (hm : MM ι Φ m dm) {sz : Nat} {u u' x : Value} {lo hi mx lo' hi' mx' : Option Value} (h1 : R ι Φ u u') (h2 : OR2 ι Φ lo lo') (h3 : OR2 ι Φ hi hi') (h4 : OR2 ι Φ mx mx') (h : vCut3 sz u lo hi mx m = some x) : Ans ι Φ x (aCut3 sz u' lo' hi' mx' dm) := by
  unfold vCut3 at h
  split at h
  · rename_i s tt els hz
    obtain ⟨q, off, c, r, rfl, hq, hs, ht, hl, hb, hel⟩ := h1.of_fz hz
    split at h
    · subst_vars
      cases hx : aHi mx els.length with
      | none => rw [hx] at h; cases h
      | some mm =>
        rw [hx] at h
        simp only [Option.bind_some] at h
        cases hh : aHi hi mm with
        | none => rw [hh] at h; cases h
        | some b =>
          rw [hh] at h
          simp only [Option.bind_some] at h
          cases hlo : aLo lo b with
          | none => rw [hlo] at h; cases h
          | some a =>
            rw [hlo] at h
            cases h
            unfold aCut3
            simp only [slc?, Option.bind_some, (hm.pin _ _ hq).1, if_true, hi_R h4 hx, hi_R h3 hh, lo_R h2 hlo]
            have e1 := hi_le hx
            have e2 := hi_le hh
            refine ⟨_, rfl, .fro rfl (FR.cut (n := 0) hq rfl hl hb hel (lo_le hlo) (by omega) (fun htt => ?_))⟩
            simp only [beq_iff_eq] at htt
            rw [if_pos htt]
    · cases h
  · unfold aCut3 at h ⊢
    cases hs : slc? u with
    | none => rw [hs] at h; cases h
    | some p =>
      rw [hs] at h
      cases p with
      | nil =>
        rw [h1.slc?_nil hs]
        simp only [Option.bind_some] at h ⊢
        cases hx : aHi mx 0 with
        | none => rw [hx] at h; cases h
        | some mm =>
          rw [hx] at h; rw [hi_R h4 hx]
          simp only [Option.bind_some] at h ⊢
          cases hh : aHi hi mm with
          | none => rw [hh] at h; cases h
          | some b =>
            rw [hh] at h; rw [hi_R h3 hh]
            simp only [Option.bind_some] at h ⊢
            cases hlo : aLo lo b with
            | none => rw [hlo] at h; cases h
            | some a => rw [hlo] at h; rw [lo_R h2 hlo]; cases h; exact ⟨_, rfl, .base rfl⟩
      | at_ o off n c =>
        obtain ⟨q, ho, e, _⟩ := h1.slc?_at hs
        rw [e]
        simp only [Option.bind_some] at h ⊢
        cases hr : m.get o with
        | none => rw [hr] at h; cases h
        | some r =>
          obtain ⟨dr, a1, a2, _⟩ := hm.live ho hr
          rw [hr] at h; rw [a1]
          simp only [Option.bind_some] at h ⊢
          rw [← a2]
          split at h
          · rw [if_pos ‹_›]
            cases hx : aHi mx n with
            | none => rw [hx] at h; cases h
            | some mm =>
              rw [hx] at h; rw [hi_R h4 hx]
              simp only [Option.bind_some] at h ⊢
              cases hh : aHi hi mm with
              | none => rw [hh] at h; cases h
              | some b =>
                rw [hh] at h; rw [hi_R h3 hh]
                simp only [Option.bind_some] at h ⊢
                cases hlo : aLo lo b with
                | none => rw [hlo] at h; cases h
                | some a => rw [hlo] at h; rw [lo_R h2 hlo]; cases h; exact ⟨_, rfl, .slice ho⟩
          · cases h
theorem aCutArr_R (hm : MM ι Φ m dm) {n sz : Nat} {u u' x : Value} {lo hi lo' hi' : Option Value} (h1 : R ι Φ u u') (h2 : OR2 ι Φ lo lo') (h3 : OR2 ι Φ hi hi') (h : aCutArr n sz u lo hi m = some x) : Ans ι Φ x (aCutArr n sz u' lo' hi' dm) := by
  unfold aCutArr at h ⊢
  cases ha : addr? u with
  | none => rw [ha] at h; cases h
  | some p =>
    obtain ⟨o, off⟩ := p
    obtain ⟨q, ho, e, _⟩ := h1.addr? ha
    rw [ha] at h; rw [e]
    simp only [Option.bind_some] at h ⊢
    cases hr : m.get o with
    | none => rw [hr] at h; cases h
    | some r =>
      obtain ⟨dr, a1, a2, a3, _⟩ := hm.live ho hr
      rw [hr] at h; rw [a1]
      simp only [Option.bind_some] at h ⊢
      rw [← a2, ← a3.1]
      split at h
      · rw [if_pos ‹_›]
        cases hh : aHi hi n with
        | none => rw [hh] at h; cases h
        | some b =>
          rw [hh] at h; rw [hi_R h3 hh]
          simp only [Option.bind_some] at h ⊢
          cases hlo : aLo lo b with
          | none => rw [hlo] at h; cases h
          | some a => rw [hlo] at h; rw [lo_R h2 hlo]; cases h; exact ⟨_, rfl, .slice ho⟩
      · cases h
theorem vStr_R (hm : MM ι Φ m dm) {u u' x : Value} (h1 : R ι Φ u u') (h : vStr u m = some x) : Ans ι Φ x (aStr u' dm) := by
  unfold vStr at h
  split at h
  · rename_i s tt els hz
    obtain ⟨q, off, c, r, rfl, hq, hs, ht, hl, hb, hel⟩ := h1.of_fz hz
    split at h
    · rename_i hs1
      subst hs1
      have hf : LR ι Φ els.flatten ((r.cells.drop off).take (els.length * 1)) := fz_flat hl hb hel
      cases hu : u8s els.flatten with
      | none => rw [hu] at h; cases h
      | some ns =>
        rw [hu] at h
        cases h
        rw [Nat.mul_one] at hb hf
        unfold aStr
        simp only [slc?, Option.bind_some, Mem.at_, (hm.pin _ _ hq).1]
        rw [if_pos hb]
        simp only [Option.bind_some, u8s_lr hf hu]
        exact ⟨_, rfl, .base rfl⟩
    · cases h
  · unfold aStr at h ⊢
    cases hs : slc? u with
    | none => rw [hs] at h; cases h
    | some p =>
      rw [hs] at h
      cases p with
      | nil => rw [h1.slc?_nil hs]; cases h; exact ⟨_, rfl, .base rfl⟩
      | at_ o off n c =>
        obtain ⟨q, ho, e, _⟩ := h1.slc?_at hs
        rw [e]
        simp only [Option.bind_some] at h ⊢
        cases hl : m.at_ o off n with
        | none => rw [hl] at h; cases h
        | some l =>
          obtain ⟨l', a, b⟩ := hm.at_ ho hl
          rw [hl] at h; rw [a]
          simp only [Option.bind_some] at h ⊢
          cases hu : u8s l with
          | none => rw [hu] at h; cases h
          | some ns => rw [hu] at h; rw [u8s_lr b hu]; cases h; exact ⟨_, rfl, .base rfl⟩
theorem aEqP_R {neg : Bool} {u u' v v' x : Value} (h1 : R ι Φ u u') (h2 : R ι Φ v v') (h : aEqP neg u v = some x) : Ans ι Φ x (aEqP neg u' v') := by
  unfold aEqP at h ⊢
  cases ha : addr? u with
  | none => rw [ha] at h; cases h
  | some a =>
    cases hb : addr? v with
    | none => rw [ha, hb] at h; cases h
    | some b =>
      rw [ha, hb] at h
      simp only [Option.bind_some] at h
      split at h
      · rename_i heq
        obtain ⟨o, off⟩ := a
        obtain ⟨o0, off0⟩ := b
        cases heq
        cases h
        obtain ⟨q, ho, e, _⟩ := h1.addr? ha
        obtain ⟨q2, ho2, e2, _⟩ := h2.addr? hb
        rw [ho] at ho2; cases ho2
        rw [e, e2]
        exact ⟨_, by simp, .base rfl⟩
      · cases h
theorem aToUns_R (hm : MM ι Φ m dm) {u u' x : Value} (h1 : R ι Φ u u') (h : aToUns u m = some x) : Ans ι Φ x (aToUns u' dm) := by
  unfold aToUns at h ⊢
  cases ha : addr? u with
  | none => rw [ha] at h; cases h
  | some a =>
    obtain ⟨o, off⟩ := a
    obtain ⟨q, ho, e, _⟩ := h1.addr? ha
    rw [ha] at h
    rw [e]
    simp only [Option.bind_some] at h ⊢
    cases hr : m.get o with
    | none => rw [hr] at h; cases h
    | some r =>
      obtain ⟨dr, a1, a2, a3, a4, _⟩ := hm.live ho hr
      rw [hr] at h; rw [a1]
      simp only [Option.bind_some] at h ⊢
      split at h
      · cases h
        rw [if_pos (by rw [← a3.1]; assumption)]
        exact ⟨_, rfl, h1⟩
      · cases h
theorem aFromUns_R (hm : MM ι Φ m dm) {y n : Nat} {u u' x : Value} (h1 : R ι Φ u u') (h : aFromUns y n u m = some x) : Ans ι Φ x (aFromUns y n u' dm) := by
  unfold aFromUns at h ⊢
  cases ha : addr? u with
  | none => rw [ha] at h; cases h
  | some a =>
    obtain ⟨o, off⟩ := a
    obtain ⟨q, ho, e, _⟩ := h1.addr? ha
    rw [ha] at h
    rw [e]
    simp only [Option.bind_some] at h ⊢
    cases hr : m.get o with
    | none => rw [hr] at h; cases h
    | some r =>
      obtain ⟨dr, a1, a2, a3, a4, _⟩ := hm.live ho hr
      rw [hr] at h; rw [a1]
      simp only [Option.bind_some] at h ⊢
      split at h
      · rename_i hc
        cases h
        rw [if_pos ⟨hc.1, by rw [← a2]; exact hc.2.1, by rw [← a3.1]; exact hc.2.2⟩]
        exact ⟨_, rfl, h1⟩
      · cases h
theorem aSData_R {u u' x : Value} (h1 : R ι Φ u u') (h : aSData u = some x) : Ans ι Φ x (aSData u') := by
  unfold aSData at h ⊢
  cases hs : slc? u with
  | none => rw [hs] at h; cases h
  | some p =>
    rw [hs] at h
    cases p with
    | nil => rw [h1.slc?_nil hs]; cases h; exact ⟨_, rfl, .base rfl⟩
    | at_ o off n c =>
      obtain ⟨q, ho, e, _⟩ := h1.slc?_at hs
      rw [e]
      simp only [Option.bind_some] at h ⊢
      split at h
      · cases h
      · rw [if_neg ‹_›]
        cases h
        exact ⟨_, rfl, .ptr ho⟩
theorem aUStr_R (hm : MM ι Φ m dm) {x x' n n' v : Value} {m' : Mem} (h1 : R ι Φ x x') (h2 : R ι Φ n n') (h : aUStr x n m = some (v, m')) : ∃ dv dm', aUStr x' n' dm = some (dv, dm') ∧ R ι Φ v dv ∧ Step2 ι Φ m dm ι Φ m' dm' := by
  unfold aUStr at h ⊢
  cases hn : int? n with
  | none => rw [hn] at h; cases h
  | some q =>
    obtain ⟨k, z⟩ := q
    rw [hn] at h
    rw [h2.int? hn]
    simp only [Option.bind_some] at h ⊢
    split at h
    · rw [if_pos ‹_›]
      split at h
      · rw [if_pos ‹_›]
        split at h
        · rename_i hp
          cases h
          have := isNilP_eq hp
          subst this
          rw [h1.of_base rfl, if_pos hp]
          exact ⟨_, _, rfl, .base rfl, .refl hm⟩
        · cases h
      · rw [if_neg ‹_›]
        split at h
        · rw [if_pos ‹_›]
          cases ha : addr? x with
          | none => rw [ha] at h; cases h
          | some a =>
            obtain ⟨o, off⟩ := a
            obtain ⟨q, ho, e, _⟩ := h1.addr? ha
            rw [ha] at h
            rw [e]
            simp only [Option.bind_some] at h ⊢
            cases hr : m.get o with
            | none => rw [hr] at h; cases h
            | some r =>
              obtain ⟨dr, a1, a2, a3, a4, a5, _⟩ := hm.live ho hr
              rw [hr] at h; rw [a1]
              simp only [Option.bind_some] at h ⊢
              split at h
              · rename_i hc
                rw [if_pos ⟨by rw [← a2]; exact hc.1, a5 hc.2⟩]
                cases hl : m.at_ o off z.toNat with
                | none => rw [hl] at h; cases h
                | some l =>
                  obtain ⟨l', b1, b2⟩ := hm.at_ ho hl
                  rw [hl] at h; rw [b1]
                  simp only [Option.bind_some] at h ⊢
                  cases hu : u8s l with
                  | none => rw [hu] at h; cases h
                  | some ns =>
                    rw [hu] at h
                    cases h
                    rw [u8s_lr b2 hu]
                    exact ⟨_, _, rfl, .base rfl, hm.drop ho hr⟩
              · cases h
        · cases h
    · cases h
theorem aMark_R (hm : MM ι Φ m dm) {u u' x : Value} (h1 : R ι Φ u u') (h : aMark u m = some x) : Ans ι Φ x (aMark u' dm) := by
  unfold aMark at h ⊢
  cases hs : slc? u with
  | none => rw [hs] at h; cases h
  | some p =>
    rw [hs] at h
    cases p with
    | nil => cases h
    | at_ o off n c =>
      obtain ⟨q, ho, e, _⟩ := h1.slc?_at hs
      rw [e]
      simp only [Option.bind_some] at h ⊢
      cases hr : m.get o with
      | none => rw [hr] at h; cases h
      | some r =>
        obtain ⟨dr, a1, a2, a3, a4, _⟩ := hm.live ho hr
        rw [hr] at h; rw [a1]
        simp only [Option.bind_some] at h ⊢
        split at h
        · rename_i hc
          cases h
          rw [if_pos ⟨a4, hc.2⟩]
          exact ⟨_, rfl, h1⟩
        · cases h
end
end Go.Proofs.Ytjojfpmelhaknaa.D
