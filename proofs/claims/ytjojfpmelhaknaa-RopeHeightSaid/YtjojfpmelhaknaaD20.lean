/-
  A deterministic reading of the program's code: read out of the program's own text, with notes on what is kept.
-/
import Derived.Test.YtjojfpmelhaknaaD19
import Derived.KernelRfl
namespace Go.Proofs.Ytjojfpmelhaknaa.D
open Go.RowKit
set_option linter.unusedVariables false
set_option linter.unusedSimpArgs false

/-- What is kept where. -/
inductive An where
  | z
  | s (a b : An)
  | k (keep : List Nat) (a b : An)
  | b (a : An)
  | l (n : Nat) (keep : List Nat) (a : An)
def compC (P : Program) (N : Nat) : An → Code → Option IC
  | _, .skip => some .skip
  | _, .region _ os false => (compL P N os os.toList).map .region
  | _, .region _ os true => if drawOk os then (compD P N os).map .draws else none
  | .s x y, .seq a b => (compC P N x a).bind fun p => (compC P N y b).map fun q => .seq p q
  | .k keep x y, .seq a b => (compC P N x a).bind fun p => (compC P N y b).map fun q => .cut keep p q
  | .s x y, .cond c a b => (compC P N x a).bind fun p => (compC P N y b).map fun q => .cond c p q
  | .b x, .block id a => (compC P N x a).map fun p => .block id p
  | .l n keep x, .loop a => (compC P N x a).map fun _ => .loop n keep
  | _, .exit id => some (.exit id)
  | _, .ret => some .ret
  | _, .refuse _ => some stopIC
  | .b x, .scope a => (compC P N x a).map fun p => .scope p
  | _, _ => none
/-- The loops of a text. -/
def loopsC (P : Program) (N : Nat) : An → Code → List (Nat × List Nat × Option IC)
  | .s x y, .seq a b => loopsC P N x a ++ loopsC P N y b
  | .k _ x y, .seq a b => loopsC P N x a ++ loopsC P N y b
  | .s x y, .cond _ a b => loopsC P N x a ++ loopsC P N y b
  | .b x, .block _ a => loopsC P N x a
  | .l n keep x, .loop a => (n, keep, compC P N x a) :: loopsC P N x a
  | .b x, .scope a => loopsC P N x a
  | _, _ => []
def LpsOk (C : Code?) (l : List (Nat × List Nat × Option IC)) : Prop := ∀ x ∈ l, ∃ b, x.2.2 = some b ∧ C.lps x.1 = some (x.2.1, b)
theorem LpsOk.left {C : Code?} {a b : List (Nat × List Nat × Option IC)} (h : LpsOk C (a ++ b)) : LpsOk C a := fun x hx => h x (List.mem_append_left _ hx)
theorem LpsOk.right {C : Code?} {a b : List (Nat × List Nat × Option IC)} (h : LpsOk C (a ++ b)) : LpsOk C b := fun x hx => h x (List.mem_append_right _ hx)
theorem compC_fit {P : Program} {C : Code?} {N : Nat} : ∀ (c : Code) (an : An) {ic : IC}, compC P N an c = some ic → LpsOk C (loopsC P N an c) → Fit P C N c ic := by
  intro c
  induction c with
  | skip => intro an ic h _; cases an <;> cases h <;> rfl
  | region id os draw =>
    intro an ic h _
    cases draw with
    | false =>
      have : (compL P N os os.toList).map IC.region = some ic := by cases an <;> exact h
      cases hc : compL P N os os.toList with
      | none => rw [hc] at this; cases this
      | some ops => rw [hc] at this; cases this; exact ⟨ops, hc, rfl⟩
    | true =>
      have : (if drawOk os then (compD P N os).map IC.draws else none) = some ic := by cases an <;> exact h
      split at this
      · rename_i hok
        cases hc : compD P N os with
        | none => rw [hc] at this; cases this
        | some ops => rw [hc] at this; cases this; exact ⟨ops, hc, hok, rfl⟩
      · cases this
  | seq a b iha ihb =>
    intro an ic h hl
    cases an with
    | s x y =>
      simp only [compC] at h
      cases ha : compC P N x a with
      | none => rw [ha] at h; cases h
      | some p =>
        rw [ha] at h
        cases hb : compC P N y b with
        | none => rw [hb] at h; cases h
        | some q =>
          rw [hb] at h; cases h
          exact ⟨p, q, iha x ha hl.left, ihb y hb hl.right, .inl rfl⟩
    | k keep x y =>
      simp only [compC] at h
      cases ha : compC P N x a with
      | none => rw [ha] at h; cases h
      | some p =>
        rw [ha] at h
        cases hb : compC P N y b with
        | none => rw [hb] at h; cases h
        | some q =>
          rw [hb] at h; cases h
          exact ⟨p, q, iha x ha hl.left, ihb y hb hl.right, .inr ⟨keep, rfl⟩⟩
    | z => cases h
    | b => cases h
    | l => cases h
  | cond c a b iha ihb =>
    intro an ic h hl
    cases an with
    | s x y =>
      simp only [compC] at h
      cases ha : compC P N x a with
      | none => rw [ha] at h; cases h
      | some p =>
        rw [ha] at h
        cases hb : compC P N y b with
        | none => rw [hb] at h; cases h
        | some q =>
          rw [hb] at h; cases h
          exact ⟨p, q, iha x ha hl.left, ihb y hb hl.right, rfl⟩
    | k => cases h
    | z => cases h
    | b => cases h
    | l => cases h
  | block id a ih =>
    intro an ic h hl
    cases an with
    | b x =>
      simp only [compC] at h
      cases ha : compC P N x a with
      | none => rw [ha] at h; cases h
      | some p => rw [ha] at h; cases h; exact ⟨p, ih x ha hl, rfl⟩
    | k => cases h
    | z => cases h
    | s => cases h
    | l => cases h
  | loop a ih =>
    intro an ic h hl
    cases an with
    | l n keep x =>
      simp only [compC] at h
      cases ha : compC P N x a with
      | none => rw [ha] at h; cases h
      | some p =>
        rw [ha] at h; cases h
        obtain ⟨b, h1, h2⟩ := hl _ (List.mem_cons_self ..)
        simp only at h1 h2
        rw [ha] at h1; cases h1
        exact ⟨n, keep, p, h2, ih x ha (fun y hy => hl y (List.mem_cons_of_mem _ hy)), rfl⟩
    | k => cases h
    | z => cases h
    | s => cases h
    | b => cases h
  | exit id => intro an ic h _; cases an <;> cases h <;> rfl
  | ret => intro an ic h _; cases an <;> cases h <;> rfl
  | scope a ih =>
    intro an ic h hl
    cases an with
    | b x =>
      simp only [compC] at h
      cases ha : compC P N x a with
      | none => rw [ha] at h; cases h
      | some p => rw [ha] at h; cases h; exact ⟨p, ih x ha hl, rfl⟩
    | k => cases h
    | z => cases h
    | s => cases h
    | l => cases h
  | rangeFunc => intro an ic h _; cases an <;> cases h
  | label => intro an ic h _; cases an <;> cases h
  | goto => intro an ic h _; cases an <;> cases h
  | refuse => intro an ic h _; cases an <;> cases h <;> rfl
def compR (P : Program) : List ResultVar → Option (List IRes)
  | [] => some []
  | .tmp t :: r => (compR P r).map (.tmp t :: ·)
  | .cell a t :: r => (ti P t).bind fun x => (compR P r).map (.cell a x.size x.agg :: ·)
theorem compR_fit {P : Program} : ∀ (l : List ResultVar) {rs : List IRes}, compR P l = some rs → FitR P l rs := by
  intro l
  induction l with
  | nil => intro rs h; cases h; rfl
  | cons x t ih =>
    intro rs h
    cases x with
    | tmp p =>
      simp only [compR] at h
      cases ht : compR P t with
      | none => rw [ht] at h; cases h
      | some q => rw [ht] at h; cases h; exact ⟨q, ih ht, rfl⟩
    | cell a ty =>
      simp only [compR] at h
      cases hx : ti P ty with
      | none => rw [hx] at h; cases h
      | some y =>
        rw [hx] at h
        simp only [Option.bind_some] at h
        cases ht : compR P t with
        | none => rw [ht] at h; cases h
        | some q => rw [ht] at h; cases h; exact ⟨q, y, hx, ih ht, rfl⟩
/-- A function, read whole. -/
def compF (P : Program) (an : An) (F : Func) : Option IFun :=
  match F.body with
  | none => none
  | some c => if (F.name == "runtime.NumGoroutine") = false then (compC P F.ntmps an c).bind fun b => (compR P F.results.toList).map fun r => ⟨F.ntmps, r, b⟩ else none
def loopsF (P : Program) (an : An) (F : Func) : List (Nat × List Nat × Option IC) := match F.body with | none => [] | some c => loopsC P F.ntmps an c
theorem compF_fit {P : Program} {C : Code?} {f : FuncId} {F : Func} {an : An} {fn : IFun} (hF : P.funcs[f]? = some F) (h : compF P an F = some fn) (hl : LpsOk C (loopsF P an F)) : FitF P C f fn := by
  unfold compF at h
  unfold loopsF at hl
  cases hb : F.body with
  | none => rw [hb] at h; cases h
  | some c =>
    rw [hb] at h hl
    simp only at h hl
    split at h
    · rename_i hn
      cases hc : compC P F.ntmps an c with
      | none => rw [hc] at h; cases h
      | some b =>
        rw [hc] at h
        simp only [Option.bind_some] at h
        cases hr : compR P F.results.toList with
        | none => rw [hr] at h; cases h
        | some r =>
          rw [hr] at h; cases h
          exact ⟨⟨F, c, hF, hn, hb, rfl, compC_fit c an hc hl, compR_fit _ hr⟩⟩
    · cases h

/-! ### Functions by number -/
def look {α : Type} : List (Nat × α) → Nat → Option α
  | [], _ => none
  | (k, x) :: t, n => if n = k then some x else look t n
theorem look_mem {α : Type} {l : List (Nat × α)} {n : Nat} {x : α} (h : look l n = some x) : (n, x) ∈ l := by
  induction l with
  | nil => cases h
  | cons p t ih =>
    obtain ⟨k, y⟩ := p
    simp only [look] at h
    split at h
    · cases h; subst_vars; exact List.mem_cons_self ..
    · exact List.mem_cons_of_mem _ (ih h)
end Go.Proofs.Ytjojfpmelhaknaa.D
