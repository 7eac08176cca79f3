/-
  A deterministic reading of the program's code: slices cut, indexed, grown; texts and bytes.
-/
import Derived.Test.YtjojfpmelhaknaaD6
namespace Go.Proofs.Ytjojfpmelhaknaa.D
open Go.RowKit
set_option linter.unusedVariables false
set_option linter.unusedSimpArgs false

/-! ### Bounds -/
def aBound (x : Value) (y : Nat) : Option Nat := (int? x).bind fun (_, i) => if 0 ≤ i then (if i ≤ y then some i.toNat else none) else none
def aHi (x : Option Value) (n : Nat) : Option Nat := match x with | none => some n | some v => aBound v n
def aLo (x : Option Value) (h : Nat) : Option Nat := match x with | none => some 0 | some v => aBound v h
inductive ORel (ι : Inj) : Option Value → Option Value → Prop
  | none : ORel ι none none
  | some {u v : Value} (h : VRel ι u v) : ORel ι (some u) (some v)
theorem aBound_sound {ι : Inj} {x x' : Value} {y n : Nat} (hx : VRel ι x x') (h : aBound x y = some n) (P : Program) (w : World) (code : BoundsCode) (y' : Nat) (hy : y ≤ y') : (Instr.sliceBound x' y' code).run P w = .ok n w ∧ n ≤ y := by
  unfold aBound at h
  cases hi : int? x with
  | none => rw [hi] at h; cases h
  | some p =>
    obtain ⟨k, i⟩ := p
    rw [hi] at h
    have := int?_some hi
    subst this
    have := hx.of_int
    subst this
    simp only [Option.bind_some] at h
    split at h
    · split at h
      · cases h
        refine ⟨?_, by omega⟩
        have : 0 ≤ i ∧ i ≤ (y' : Int) := by omega
        unfold Instr.sliceBound
        rw [run_bind (a := (k, i)) (w1 := w) rfl]
        simp only
        rw [if_pos this]; rfl
      · cases h
    · cases h

/-! ### Cuts -/
def aCutStr (x : Value) (lo hi : Option Value) : Option Value :=
  (str? x).bind fun s => (aHi hi s.size).bind fun h => (aLo lo h).bind fun l => some (.string (s.extract l h))
theorem run_bounds {ι : Inj} {P : Program} {w : World} {isSlice : Bool} {n len cap : Nat} {lo hi lo' hi' : Option Value} {l h : Nat} (hl : ORel ι lo lo') (hh : ORel ι hi hi') (hn : len = n) (hc : n ≤ cap) (h1 : aHi hi n = some h) (h2 : aLo lo h = some l) :
    (Instr.sliceBounds isSlice len cap lo' hi' none).run P w = .ok (l, h, cap) w ∧ l ≤ h ∧ h ≤ n := by
  subst hn
  unfold Instr.sliceBounds
  cases hh with
  | none =>
    cases h1
    cases hl with
    | none => cases h2; exact ⟨rfl, by omega, by omega⟩
    | some hl =>
      obtain ⟨hr, hle⟩ := aBound_sound hl h2 P w .sliceB len (Nat.le_refl _)
      refine ⟨?_, hle, by omega⟩
      simp only
      rw [run_bind (a := cap) (w1 := w) rfl, run_bind (a := len) (w1 := w) rfl]
      rw [run_bind (a := l) (w1 := w) (by simpa using hr)]
      rfl
  | some hh =>
    obtain ⟨hr1, hle1⟩ := aBound_sound hh h1 P w (if isSlice then .sliceAcap else .sliceAlen) cap hc
    cases hl with
    | none =>
      cases h2
      refine ⟨?_, by omega, hle1⟩
      simp only
      rw [run_bind (a := cap) (w1 := w) rfl, run_bind hr1, run_bind (a := 0) (w1 := w) rfl]
      rfl
    | some hl =>
      obtain ⟨hr, hle⟩ := aBound_sound hl h2 P w .sliceB h (Nat.le_refl _)
      refine ⟨?_, hle, hle1⟩
      simp only
      rw [run_bind (a := cap) (w1 := w) rfl, run_bind hr1]
      rw [run_bind (a := l) (w1 := w) (by simpa using hr)]
      rfl
theorem aCutStr_sound {cx : Cx} {ι : Inj} {m : Mem} {w : World} {v x x' : Value} {lo hi lo' hi' : Option Value} (h : Rel cx ι m w) (hx : VRel ι x x') (hl : ORel ι lo lo') (hh : ORel ι hi hi') {t : TypeId} (ht : cx.P.underlying t = some .string)
    (hv : aCutStr x lo hi = some v) : Sound cx ι m w (Instr.sliceAt t x' lo' hi' none) v m := by
  unfold aCutStr at hv
  cases hs : str? x with
  | none => rw [hs] at hv; cases hv
  | some s =>
    rw [hs] at hv
    have := str?_some hs
    subst this
    have := hx.of_string
    subst this
    simp only [Option.bind_some] at hv
    cases h1 : aHi hi s.size with
    | none => rw [h1] at hv; cases hv
    | some b =>
      rw [h1] at hv
      simp only [Option.bind_some] at hv
      cases h2 : aLo lo b with
      | none => rw [h2] at hv; cases hv
      | some a =>
        rw [h2] at hv
        cases hv
        obtain ⟨hr, hle, _⟩ := run_bounds (P := cx.P) (w := w) (isSlice := false) hl hh rfl (Nat.le_refl _) h1 h2
        refine Sound.pure h ?_ (.string _)
        unfold Instr.sliceAt
        rw [run_bind (run_underlying ht w)]
        simp only
        unfold Instr.slice
        rw [run_bind (run_underlying ht w)]
        simp only
        rw [if_neg (by simp), run_bind hr]
        rfl

/-- A slice of a slice; with a third bound: its capacity ends there. -/
def aCut (sz : Nat) (x : Value) (lo hi : Option Value) (m : Mem) : Option Value :=
  (slc? x).bind fun
    | .nil => (aHi hi 0).bind fun h => (aLo lo h).bind fun _ => some (.slice none 0 0)
    | .at_ o off n c => (m.get o).bind fun r => if unit r.sz = sz then (aHi hi n).bind fun h => (aLo lo h).bind fun l => some (.slice (some ⟨o, off + l * sz, none⟩) (h - l) (if c = n ∧ h = n then h - l else h - l + 1)) else none
theorem aCut_sound {cx : Cx} {ι : Inj} {m : Mem} {w : World} {v x x' : Value} {lo hi lo' hi' : Option Value} (h : Rel cx ι m w) (hx : VRel ι x x') (hl : ORel ι lo lo') (hh : ORel ι hi hi') {t e : TypeId} {y : TI} (ht : cx.P.underlying t = some (.slice e)) (hy : TIs cx.P e y)
    (hv : aCut y.size x lo hi m = some v) : Sound cx ι m w (Instr.sliceAt t x' lo' hi' none) v m := by
  obtain ⟨⟨i, z, i1, i2, i3, i4, i5, _⟩, hg⟩ := hy
  unfold aCut at hv
  cases hs : slc? x with
  | none => rw [hs] at hv; cases hv
  | some p =>
    rw [hs] at hv
    simp only [Option.bind_some] at hv
    cases p with
    | nil =>
      have := slc?_nil hs
      subst this
      obtain ⟨_, _, rfl⟩ := hx.of_nilslice
      simp only at hv
      cases h1 : aHi hi 0 with
      | none => rw [h1] at hv; cases hv
      | some b =>
        rw [h1] at hv
        simp only [Option.bind_some] at hv
        cases h2 : aLo lo b with
        | none => rw [h2] at hv; cases hv
        | some a =>
          rw [h2] at hv
          cases hv
          obtain ⟨hr, hle, hle2⟩ := run_bounds (P := cx.P) (w := w) (isSlice := true) hl hh rfl (Nat.le_refl _) h1 h2
          have hb0 : b = 0 := by omega
          have ha0 : a = 0 := by omega
          subst hb0 ha0
          refine Sound.pure h ?_ (.base rfl)
          unfold Instr.sliceAt
          rw [run_bind (run_underlying ht w)]
          simp only
          unfold Instr.slice
          rw [run_bind (run_underlying ht w)]
          simp only
          rw [run_bind hr]
          simp only
          rw [run_bind (run_sizeOf i1 w)]
          rfl
    | at_ o off n c =>
      have := slc?_at hs
      subst this
      obtain ⟨o', off', g, a', c', e, ho, rfl, q1, q2, q3, q4⟩ := hx.of_slice
      cases e
      simp only at hv
      cases hr0 : m.get o with
      | none => rw [hr0] at hv; cases hv
      | some r =>
        rw [hr0] at hv
        simp only [Option.bind_some] at hv
        split at hv
        · rename_i hsz
          cases h1 : aHi hi n with
          | none => rw [h1] at hv; cases hv
          | some b =>
            rw [h1] at hv
            simp only [Option.bind_some] at hv
            cases h2 : aLo lo b with
            | none => rw [h2] at hv; cases hv
            | some a =>
              rw [h2] at hv
              cases hv
              obtain ⟨hr, hle, hle2⟩ := run_bounds (P := cx.P) (w := w) (isSlice := true) hl hh rfl q2 h1 h2
              obtain ⟨cs, e', fz, k1, k2, k3, k4, k5, k6⟩ := (h.obj o g r ho hr0).ex
              refine Sound.pure (v' := .slice (some (if c' = a then a' else a'.add (a * y.size))) (b - a) (c' - a)) h ?_ ?_
              · unfold Instr.sliceAt
                rw [run_bind (run_underlying ht w)]
                simp only
                unfold Instr.slice
                rw [run_bind (run_underlying ht w)]
                simp only
                rw [run_bind hr]
                simp only
                rw [run_bind (run_sizeOf i1 w), i5]
                split <;> rfl
              · refine VRel.slice ho (by split <;> omega) (by omega) ?_ ?_
                · intro hc
                  split at hc
                  · rename_i hcn; have := q3 hcn.1; omega
                  · omega
                · intro hc
                  obtain ⟨p1, p2⟩ := q4 (by omega)
                  rw [if_neg (by omega), p1, addr_add]
                  refine ⟨by rw [Nat.add_assoc], ?_⟩
                  have : a * g.sz + (c' - a) * g.sz = c' * g.sz := by rw [← Nat.add_mul]; congr 1; omega
                  rw [show y.size = g.sz by omega]
                  omega
        · cases hv
theorem run_bounds3 {ι : Inj} {P : Program} {w : World} {n cap : Nat} {lo hi mx lo' hi' mx' : Option Value} {l h mm : Nat} (hl : ORel ι lo lo') (hh : ORel ι hi hi') (hm : ORel ι mx mx') (hs : mx.isSome = true) (hs2 : hi.isSome = true) (hc : n ≤ cap) (h0 : aHi mx n = some mm) (h1 : aHi hi mm = some h) (h2 : aLo lo h = some l) :
    (Instr.sliceBounds true n cap lo' hi' mx').run P w = .ok (l, h, mm) w ∧ l ≤ h ∧ h ≤ mm ∧ mm ≤ n := by
  unfold Instr.sliceBounds
  cases hm with
  | none => cases hs
  | some hm =>
    cases hh with
    | none => cases hs2
    | some hh =>
      obtain ⟨hr0, hle0⟩ := aBound_sound hm h0 P w .slice3Acap cap hc
      obtain ⟨hr1, hle1⟩ := aBound_sound hh h1 P w .slice3B mm (Nat.le_refl _)
      simp only [if_true]
      rw [run_bind hr0, run_bind hr1]
      cases hl with
      | none =>
        cases h2
        exact ⟨rfl, by omega, hle1, hle0⟩
      | some hl =>
        obtain ⟨hr, hle⟩ := aBound_sound hl h2 P w .slice3C h (Nat.le_refl _)
        refine ⟨?_, hle, hle1, hle0⟩
        simp only [Option.isSome_some, if_true]
        rw [run_bind hr]
        rfl
def aCut3 (sz : Nat) (x : Value) (lo hi mx : Option Value) (m : Mem) : Option Value :=
  (slc? x).bind fun
    | .nil => (aHi mx 0).bind fun mm => (aHi hi mm).bind fun h => (aLo lo h).bind fun _ => some (.slice none 0 0)
    | .at_ o off n c => (m.get o).bind fun r => if unit r.sz = sz then (aHi mx n).bind fun mm => (aHi hi mm).bind fun h => (aLo lo h).bind fun l => some (.slice (some ⟨o, off + l * sz, none⟩) (h - l) (if h = mm then h - l else h - l + 1)) else none
theorem aCut3_sound {cx : Cx} {ι : Inj} {m : Mem} {w : World} {v x x' : Value} {lo hi mx lo' hi' mx' : Option Value} (h : Rel cx ι m w) (hx : VRel ι x x') (hl : ORel ι lo lo') (hh : ORel ι hi hi') (hm : ORel ι mx mx') (hs1 : mx.isSome = true) (hs2 : hi.isSome = true) {t e : TypeId} {y : TI} (ht : cx.P.underlying t = some (.slice e)) (hy : TIs cx.P e y)
    (hv : aCut3 y.size x lo hi mx m = some v) : Sound cx ι m w (Instr.sliceAt t x' lo' hi' mx') v m := by
  obtain ⟨⟨i, z, i1, i2, i3, i4, i5, _⟩, hg⟩ := hy
  unfold aCut3 at hv
  cases hs : slc? x with
  | none => rw [hs] at hv; cases hv
  | some p =>
    rw [hs] at hv
    simp only [Option.bind_some] at hv
    cases p with
    | nil =>
      have := slc?_nil hs
      subst this
      obtain ⟨_, _, rfl⟩ := hx.of_nilslice
      simp only at hv
      cases h0 : aHi mx 0 with
      | none => rw [h0] at hv; cases hv
      | some mm =>
      rw [h0] at hv
      simp only [Option.bind_some] at hv
      cases h1 : aHi hi mm with
      | none => rw [h1] at hv; cases hv
      | some b =>
        rw [h1] at hv
        simp only [Option.bind_some] at hv
        cases h2 : aLo lo b with
        | none => rw [h2] at hv; cases hv
        | some a =>
          rw [h2] at hv
          cases hv
          obtain ⟨hr, hle, hle2, hle3⟩ := run_bounds3 (P := cx.P) (w := w) hl hh hm hs1 hs2 (Nat.le_refl _) h0 h1 h2
          have hb0 : b = 0 := by omega
          have ha0 : a = 0 := by omega
          have hm0 : mm = 0 := by omega
          subst hb0 ha0 hm0
          refine Sound.pure h ?_ (.base rfl)
          unfold Instr.sliceAt
          rw [run_bind (run_underlying ht w)]
          simp only
          unfold Instr.slice
          rw [run_bind (run_underlying ht w)]
          simp only
          rw [run_bind hr]
          simp only
          rw [run_bind (run_sizeOf i1 w)]
          rfl
    | at_ o off n c =>
      have := slc?_at hs
      subst this
      obtain ⟨o', off', g, a', c', e, ho, rfl, q1, q2, q3, q4⟩ := hx.of_slice
      cases e
      simp only at hv
      cases hr0 : m.get o with
      | none => rw [hr0] at hv; cases hv
      | some r =>
        rw [hr0] at hv
        simp only [Option.bind_some] at hv
        split at hv
        · rename_i hsz
          cases h0 : aHi mx n with
          | none => rw [h0] at hv; cases hv
          | some mm =>
          rw [h0] at hv
          simp only [Option.bind_some] at hv
          cases h1 : aHi hi mm with
          | none => rw [h1] at hv; cases hv
          | some b =>
            rw [h1] at hv
            simp only [Option.bind_some] at hv
            cases h2 : aLo lo b with
            | none => rw [h2] at hv; cases hv
            | some a =>
              rw [h2] at hv
              cases hv
              obtain ⟨hr, hle, hle2, hle3⟩ := run_bounds3 (P := cx.P) (w := w) hl hh hm hs1 hs2 q2 h0 h1 h2
              obtain ⟨cs, e', fz, k1, k2, k3, k4, k5, k6⟩ := (h.obj o g r ho hr0).ex
              refine Sound.pure (v' := .slice (some (if mm = a then a' else a'.add (a * y.size))) (b - a) (mm - a)) h ?_ ?_
              · unfold Instr.sliceAt
                rw [run_bind (run_underlying ht w)]
                simp only
                unfold Instr.slice
                rw [run_bind (run_underlying ht w)]
                simp only
                rw [run_bind hr]
                simp only
                rw [run_bind (run_sizeOf i1 w), i5]
                split <;> rfl
              · refine VRel.slice ho (by split <;> omega) (by omega) ?_ ?_
                · intro hc
                  split at hc <;> omega
                · intro hc
                  obtain ⟨p1, p2⟩ := q4 (by omega)
                  rw [if_neg (by omega), p1, addr_add]
                  refine ⟨by rw [Nat.add_assoc], ?_⟩
                  have : a * g.sz + (mm - a) * g.sz = mm * g.sz := by rw [← Nat.add_mul]; congr 1; omega
                  have : mm * g.sz ≤ c' * g.sz := Nat.mul_le_mul_right _ (by omega)
                  rw [show y.size = g.sz by omega]
                  omega
        · cases hv
/-- A slice of an array behind a pointer. -/
def aCutArr (n sz : Nat) (x : Value) (lo hi : Option Value) (m : Mem) : Option Value :=
  (addr? x).bind fun (o, off) => (m.get o).bind fun r => if unit r.sz = sz ∧ off + n * sz ≤ r.cells.length then (aHi hi n).bind fun h => (aLo lo h).bind fun l => some (.slice (some ⟨o, off + l * sz, none⟩) (h - l) (if h = n then h - l else h - l + 1)) else none
theorem aCutArr_sound {cx : Cx} {ι : Inj} {m : Mem} {w : World} {v x x' : Value} {lo hi lo' hi' : Option Value} (h : Rel cx ι m w) (hx : VRel ι x x') (hl : ORel ι lo lo') (hh : ORel ι hi hi') {t e : TypeId} {n : Nat} {y : TI} (ht : cx.P.underlying t = some (.array n e)) (hy : TIs cx.P e y)
    (hv : aCutArr n y.size x lo hi m = some v) : Sound cx ι m w (Instr.sliceAt t x' lo' hi' none) v m := by
  obtain ⟨⟨i, z, i1, i2, i3, i4, i5, _⟩, hg⟩ := hy
  unfold aCutArr at hv
  cases hs : addr? x with
  | none => rw [hs] at hv; cases hv
  | some p =>
    obtain ⟨o, off⟩ := p
    rw [hs] at hv
    simp only [Option.bind_some] at hv
    have := addr?_some hs
    subst this
    obtain ⟨o', off', g, e, ho, rfl⟩ := hx.of_ptr
    cases e
    cases hr0 : m.get o with
    | none => rw [hr0] at hv; cases hv
    | some r =>
      rw [hr0] at hv
      simp only [Option.bind_some] at hv
      split at hv
      · rename_i hsz
        cases h1 : aHi hi n with
        | none => rw [h1] at hv; cases hv
        | some b =>
          rw [h1] at hv
          simp only [Option.bind_some] at hv
          cases h2 : aLo lo b with
          | none => rw [h2] at hv; cases hv
          | some a =>
            rw [h2] at hv
            cases hv
            obtain ⟨hr, hle, hle2⟩ := run_bounds (P := cx.P) (w := w) (isSlice := false) hl hh rfl (Nat.le_refl _) h1 h2
            obtain ⟨cs, e', fz, k1, k2, k3, k4, k5, k6⟩ := (h.obj o g r ho hr0).ex
            refine Sound.pure (v' := .slice (some (if n = a then ⟨g.b, g.s + off, none⟩ else (⟨g.b, g.s + off, none⟩ : Addr).add (a * y.size))) (b - a) (n - a)) h ?_ ?_
            · unfold Instr.sliceAt
              rw [run_bind (run_underlying ht w)]
              simp only
              rw [run_bind (a := (⟨g.b, g.s + off, none⟩ : Addr)) (w1 := w) rfl, run_bind hr]
              simp only
              rw [run_bind (run_sizeOf i1 w), i5]
              rfl
            · refine VRel.slice ho (by split <;> omega) (by omega) ?_ ?_
              · intro hc
                split at hc <;> omega
              · intro hc
                rw [if_neg (by omega), addr_add]
                refine ⟨by rw [Nat.add_assoc], ?_⟩
                have : a * g.sz + (n - a) * g.sz = n * g.sz := by rw [← Nat.add_mul]; congr 1; omega
                have e1 : y.size = g.sz := by omega
                rw [e1] at hsz ⊢
                omega
      · cases hv
end Go.Proofs.Ytjojfpmelhaknaa.D
