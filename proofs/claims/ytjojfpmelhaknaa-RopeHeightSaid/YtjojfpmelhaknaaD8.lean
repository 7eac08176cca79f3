/-
  A deterministic reading of the program's code: elements, appends, texts and bytes, nil.
-/
import Derived.Test.YtjojfpmelhaknaaD7
namespace Go.Proofs.Ytjojfpmelhaknaa.D
open Go.RowKit
set_option linter.unusedVariables false
set_option linter.unusedSimpArgs false

/-! ### Elements -/
def aIdx (sz : Nat) (x i : Value) : Option Value :=
  (slc? x).bind fun
    | .nil => none
    | .at_ o off n _ => (int? i).bind fun (_, j) => if 0 ≤ j then (if j < n then some (.pointer (some ⟨o, off + j.toNat * sz, none⟩)) else none) else none
theorem aIdx_sound {cx : Cx} {ι : Inj} {m : Mem} {w : World} {v x x' i i' : Value} (h : Rel cx ι m w) (hx : VRel ι x x') (hi : VRel ι i i') {t e : TypeId} {y : TI} (ht : cx.P.underlying t = some (.slice e)) (hy : TIs cx.P e y)
    (hv : aIdx y.size x i = some v) : Sound cx ι m w (Instr.indexAt t x' i') v m := by
  obtain ⟨⟨ii, z, i1, i2, i3, i4, i5, _⟩, hg⟩ := hy
  unfold aIdx at hv
  cases hs : slc? x with
  | none => rw [hs] at hv; cases hv
  | some p =>
    rw [hs] at hv
    simp only [Option.bind_some] at hv
    cases p with
    | nil => cases hv
    | at_ o off n c =>
      have := slc?_at hs
      subst this
      obtain ⟨o', off', g, a', c', e', ho, rfl, q1, q2, q3, q4⟩ := hx.of_slice
      cases e'
      simp only at hv
      cases hj : int? i with
      | none => rw [hj] at hv; cases hv
      | some q =>
        obtain ⟨k, j⟩ := q
        rw [hj] at hv
        have := int?_some hj
        subst this
        have := hi.of_int
        subst this
        simp only [Option.bind_some] at hv
        split at hv
        · split at hv
          · cases hv
            obtain ⟨p1, p2⟩ := q4 (by omega)
            refine Sound.pure h ?_ (VRel.ptr ho)
            unfold Instr.indexAt
            rw [run_bind (a := (k, j)) (w1 := w) rfl]
            simp only
            rw [run_bind (run_underlying ht w)]
            simp only
            rw [run_bind (a := (some a', n, e)) (w1 := w) rfl]
            simp only
            rw [run_bind (run_underlying ht w)]
            simp only
            have : 0 ≤ j ∧ j < (n : Int) := by omega
            rw [if_pos this, run_bind (run_sizeOf i1 w), i5, p1, addr_add, Nat.add_assoc]
            rfl
          · cases hv
        · cases hv
def aIdxArr (n sz : Nat) (x i : Value) : Option Value :=
  (addr? x).bind fun (o, off) => (int? i).bind fun (_, j) => if 0 ≤ j then (if j < n then some (.pointer (some ⟨o, off + j.toNat * sz, none⟩)) else none) else none
theorem aIdxArr_sound {cx : Cx} {ι : Inj} {m : Mem} {w : World} {v x x' i i' : Value} (h : Rel cx ι m w) (hx : VRel ι x x') (hi : VRel ι i i') {t e : TypeId} {n : Nat} {y : TI} (ht : cx.P.underlying t = some (.array n e)) (hy : TIs cx.P e y)
    (hv : aIdxArr n y.size x i = some v) : Sound cx ι m w (Instr.indexAt t x' i') v m := by
  obtain ⟨⟨ii, z, i1, i2, i3, i4, i5, _⟩, hg⟩ := hy
  unfold aIdxArr at hv
  cases hs : addr? x with
  | none => rw [hs] at hv; cases hv
  | some p =>
    obtain ⟨o, off⟩ := p
    rw [hs] at hv
    simp only [Option.bind_some] at hv
    have := addr?_some hs
    subst this
    obtain ⟨o', off', g, e', ho, rfl⟩ := hx.of_ptr
    cases e'
    cases hj : int? i with
    | none => rw [hj] at hv; cases hv
    | some q =>
      obtain ⟨k, j⟩ := q
      rw [hj] at hv
      have := int?_some hj
      subst this
      have := hi.of_int
      subst this
      simp only [Option.bind_some] at hv
      split at hv
      · split at hv
        · cases hv
          refine Sound.pure h ?_ (VRel.ptr ho)
          unfold Instr.indexAt
          rw [run_bind (a := (k, j)) (w1 := w) rfl]
          simp only
          rw [run_bind (run_underlying ht w)]
          simp only
          rw [run_bind (a := (⟨g.b, g.s + off, none⟩ : Addr)) (w1 := w) rfl, run_bind (a := (some (⟨g.b, g.s + off, none⟩ : Addr), n, e)) (w1 := w) rfl]
          simp only
          rw [run_bind (run_underlying ht w)]
          simp only
          have : 0 ≤ j ∧ j < (n : Int) := by omega
          rw [if_pos this, run_bind (run_sizeOf i1 w), i5, addr_add, Nat.add_assoc]
          rfl
        · cases hv
      · cases hv
def aByte (x i : Value) : Option Value :=
  (str? x).bind fun s => (int? i).bind fun (_, j) => if 0 ≤ j then (s[j.toNat]?).map fun b => .int .u8 b.toNat else none
theorem aByte_sound {cx : Cx} {ι : Inj} {m : Mem} {w : World} {v x x' i i' : Value} (h : Rel cx ι m w) (hx : VRel ι x x') (hi : VRel ι i i') {t : TypeId} (ht : cx.P.underlying t = some .string)
    (hv : aByte x i = some v) : Sound cx ι m w (Instr.index t x' i') v m := by
  unfold aByte at hv
  cases hs : str? x with
  | none => rw [hs] at hv; cases hv
  | some s =>
    rw [hs] at hv
    have := str?_some hs
    subst this
    have := hx.of_string
    subst this
    simp only [Option.bind_some] at hv
    cases hj : int? i with
    | none => rw [hj] at hv; cases hv
    | some q =>
      obtain ⟨k, j⟩ := q
      rw [hj] at hv
      have := int?_some hj
      subst this
      have := hi.of_int
      subst this
      simp only [Option.bind_some] at hv
      split at hv
      · rename_i h0
        cases hb : s[j.toNat]? with
        | none => rw [hb] at hv; cases hv
        | some b =>
          rw [hb] at hv
          cases hv
          refine Sound.pure h ?_ (.int _ _)
          unfold Instr.index
          rw [run_bind (a := (k, j)) (w1 := w) rfl]
          simp only
          rw [run_bind (run_underlying ht w)]
          simp only
          rw [if_pos h0, hb]
          rfl
      · cases hv
def aElem (agg : Bool) (n sz : Nat) (x i : Value) : Option Value :=
  (agg? x).bind fun l => (int? i).bind fun (_, j) => if 0 ≤ j then (if j < n then aPart agg sz (j.toNat * sz) l else none) else none
theorem aElem_sound {cx : Cx} {ι : Inj} {m : Mem} {w : World} {v x x' i i' : Value} (h : Rel cx ι m w) (hx : VRel ι x x') (hi : VRel ι i i') {t e : TypeId} {n : Nat} {y : TI} (ht : cx.P.underlying t = some (.array n e)) (hy : TIs cx.P e y)
    (hv : aElem y.agg n y.size x i = some v) : Sound cx ι m w (Instr.index t x' i') v m := by
  unfold aElem at hv
  cases hs : agg? x with
  | none => rw [hs] at hv; cases hv
  | some l =>
    rw [hs] at hv
    have := agg?_some hs
    subst this
    obtain ⟨x', rfl, p1, p2, p3⟩ := hx.of_agg
    simp only [Option.bind_some] at hv
    cases hj : int? i with
    | none => rw [hj] at hv; cases hv
    | some q =>
      obtain ⟨k, j⟩ := q
      rw [hj] at hv
      have := int?_some hj
      subst this
      have := hi.of_int
      subst this
      simp only [Option.bind_some] at hv
      split at hv
      · split at hv
        · obtain ⟨ii, z, i1, i2, i3, i4, i5, _⟩ := hy.info
          have hl : LRel ι l x'.toList := by simpa using lrel_of_arr p1 p2
          obtain ⟨ι', v', w', r1, r2, r3⟩ := aPart_sound h hy hl (by simpa using p3) hv
          refine ⟨ι', v', w', ?_, r2, r3⟩
          unfold Instr.index
          rw [run_bind (a := (k, j)) (w1 := w) rfl]
          simp only
          rw [run_bind (run_underlying ht w)]
          simp only
          have : 0 ≤ j ∧ j < (n : Int) := by omega
          rw [if_pos this, run_bind (run_sizeOf i1 w), i5]
          exact r1
        · cases hv
      · cases hv
/-- A field of a struct. -/
def aField (agg : Bool) (n off : Nat) (x : Value) : Option Value := (agg? x).bind fun l => aPart agg n off l
theorem aField_sound {cx : Cx} {ι : Inj} {m : Mem} {w : World} {v x x' : Value} (h : Rel cx ι m w) (hx : VRel ι x x') {t : TypeId} {fs : Array Field} {f : Field} {j : Nat} {y : TI} (ht : cx.P.underlying t = some (.struct fs)) (hf : fs[j]? = some f) (hy : TIs cx.P f.type y)
    (hv : aField y.agg y.size f.offset x = some v) : Sound cx ι m w (Instr.field t x' j) v m := by
  unfold aField at hv
  cases hs : agg? x with
  | none => rw [hs] at hv; cases hv
  | some l =>
    rw [hs] at hv
    have := agg?_some hs
    subst this
    obtain ⟨x', rfl, p1, p2, p3⟩ := hx.of_agg
    simp only [Option.bind_some] at hv
    have hl : LRel ι l x'.toList := by simpa using lrel_of_arr p1 p2
    obtain ⟨ι', v', w', r1, r2, r3⟩ := aPart_sound h hy hl (by simpa using p3) hv
    refine ⟨ι', v', w', ?_, r2, r3⟩
    unfold Instr.field
    rw [run_bind (run_underlying ht w)]
    simp only [hf]
    rw [run_bind (a := x') (w1 := w) rfl]
    exact r1
def aFieldAddr (off : Nat) (x : Value) : Option Value := (addr? x).bind fun (o, p) => some (.pointer (some ⟨o, p + off, none⟩))
theorem aFieldAddr_sound {cx : Cx} {ι : Inj} {m : Mem} {w : World} {v x x' : Value} (h : Rel cx ι m w) (hx : VRel ι x x') {t : TypeId} {fs : Array Field} {f : Field} {j : Nat} {y : TI} (ht : cx.P.underlying t = some (.struct fs)) (hf : fs[j]? = some f) (hy : TIs cx.P f.type y) (hz : y.size ≠ 0)
    (hv : aFieldAddr f.offset x = some v) : Sound cx ι m w (Instr.fieldAt t x' j) v m := by
  unfold aFieldAddr at hv
  cases hs : addr? x with
  | none => rw [hs] at hv; cases hv
  | some p =>
    obtain ⟨o, off⟩ := p
    rw [hs] at hv
    cases hv
    have := addr?_some hs
    subst this
    obtain ⟨o', off', g, e', ho, rfl⟩ := hx.of_ptr
    cases e'
    obtain ⟨ii, z, i1, i2, i3, i4, i5, _⟩ := hy.info
    refine Sound.pure h ?_ (VRel.ptr ho)
    unfold Instr.fieldAt
    rw [run_bind (run_underlying ht w)]
    simp only [hf]
    rw [run_bind (a := (⟨g.b, g.s + off, none⟩ : Addr)) (w1 := w) rfl]
    have : (fieldPlace ⟨g.b, g.s + off, none⟩ f).run cx.P w = .ok ⟨g.b, g.s + (off + f.offset), none⟩ w := by
      unfold fieldPlace
      rw [run_bind (run_sizeOf i1 w), i5, if_neg hz, addr_add, Nat.add_assoc]
      rfl
    rw [run_bind this]
    rfl
def aExtract (i : Nat) (x : Value) : Option Value := (tup? x).bind fun l => l[i]?
theorem aExtract_sound {cx : Cx} {ι : Inj} {m : Mem} {w : World} {v x x' : Value} {i : Nat} (h : Rel cx ι m w) (hx : VRel ι x x') (hv : aExtract i x = some v) : Sound cx ι m w (Instr.extract x' i) v m := by
  unfold aExtract at hv
  cases hs : tup? x with
  | none => rw [hs] at hv; cases hv
  | some l =>
    rw [hs] at hv
    obtain ⟨rfl, hne⟩ := tup?_some hs
    obtain ⟨x', rfl, p1, p2⟩ := hx.of_tuple (by simpa using hne)
    simp only [Option.bind_some] at hv
    have hl : LRel ι l x'.toList := by simpa using lrel_of_arr p1 p2
    obtain ⟨u, q1, q2⟩ := hl.get hv
    refine Sound.pure h ?_ q2
    simp only [Array.getElem?_toList] at q1
    simp [Instr.extract, q1, pure, Sem.run]
end Go.Proofs.Ytjojfpmelhaknaa.D
