/-
  A deterministic reading of the program's code: whole functions are what they are read as.
-/
import Derived.Test.YtjojfpmelhaknaaD15
namespace Go.Proofs.Ytjojfpmelhaknaa.D
open Go.RowKit
set_option linter.unusedVariables false
set_option linter.unusedSimpArgs false

/-! ### What stays, of whole parts -/
theorem evOp1_kp {O : Orc} (hO : KPO O) {op : IOp} {dst : Option Nat} {env : Env} {m : Mem} {d : List Dfr} {k : Kont} {r : Out} (h : evOp1 O op dst env m d k = some r) : ∃ x e m1 d1, KP m m1 ∧ k x e m1 d1 = some r := by
  have key : ∀ (kk : Key) (l : List Value), ((O kk l m []).bind fun o => thenK o dst env d k) = some r → ∃ x e m1 d1, KP m m1 ∧ k x e m1 d1 = some r := by
    intro kk l h
    cases ho : O kk l m [] with
    | none => rw [ho] at h; cases h
    | some o =>
      rw [ho] at h
      simp only [Option.bind_some] at h
      unfold thenK at h
      split at h
      · cases hv : o.vals.head? with
        | none => rw [hv] at h; cases h
        | some v => rw [hv] at h; exact ⟨_, _, _, _, hO _ _ _ _ _ ho, h⟩
      · exact ⟨_, _, _, _, hO _ _ _ _ _ ho, h⟩
      · cases h
  cases op with
  | plain p =>
    simp only [evOp1] at h
    cases hv : aop p (aev env) m with
    | none => rw [hv] at h; cases h
    | some v => rw [hv] at h; exact ⟨_, _, _, _, aop_kp hv, h⟩
  | call f as => exact key _ _ h
  | callV x as =>
    simp only [evOp1] at h
    cases hf : fn? (aev env x) with
    | none => rw [hf] at h; cases h
    | some c => rw [hf] at h; exact key _ _ h
  | dfr x as =>
    simp only [evOp1] at h
    cases hf : fn? (aev env x) with
    | none => rw [hf] at h; cases h
    | some c => rw [hf] at h; exact ⟨_, _, _, _, .refl _, h⟩
  | panic x => cases hv : aev env x <;> simp only [evOp1, hv] at h <;> first | exact ⟨_, _, _, _, .refl _, h⟩ | cases h
  | recover => cases h
theorem evOp_kp {O : Orc} (hO : KPO O) {o : IOper} {env : Env} {m : Mem} {d : List Dfr} {k : Kont} {r : Out} (h : evOp O o env m d k = some r) : ∃ x e m1 d1, KP m m1 ∧ k x e m1 d1 = some r := by
  rcases guarded_gok h with ⟨_, h⟩ | ⟨_, h⟩
  · exact evOp1_kp hO h
  · exact ⟨_, _, _, _, .refl _, h⟩
theorem evOps_kp {O : Orc} (hO : KPO O) : ∀ {ops : List IOper} {env : Env} {m : Mem} {d : List Dfr} {k : Kont} {r : Out}, evOps O ops env m d k = some r → ∃ x e m1 d1, KP m m1 ∧ k x e m1 d1 = some r := by
  intro ops
  induction ops with
  | nil => intro env m d k r h; exact ⟨_, _, _, _, .refl _, h⟩
  | cons o t ih =>
    intro env m d k r h
    obtain ⟨x, e, m1, d1, h1, h2⟩ := evOp_kp hO h
    cases x with
    | normal =>
      obtain ⟨x, e, m2, d2, h3, h4⟩ := ih h2
      exact ⟨x, e, m2, d2, h1.trans h3, h4⟩
    | _ => exact ⟨_, _, _, _, h1, h2⟩
theorem qPan1_kp {O : Orc} (hO : KPO O) {op : IOp} {env : Env} {m : Mem} {r : Value × Mem} (h : qPan1 O op env m = some r) : KP m r.2 := by
  have key : ∀ (k : Key) (l : List Value), ((O k l m []).bind fun o => match o.x with | .panic v => some (v, o.m) | _ => none) = some r → KP m r.2 := by
    intro k l h
    cases ho : O k l m [] with
    | none => rw [ho] at h; cases h
    | some o =>
      rw [ho] at h
      simp only [Option.bind_some] at h
      split at h
      · cases h; exact hO _ _ _ _ _ ho
      · cases h
  cases op with
  | call f as => exact key _ _ h
  | callV x as =>
    simp only [qPan1] at h
    cases hf : fn? (aev env x) with
    | none => rw [hf] at h; cases h
    | some c => rw [hf] at h; exact key _ _ h
  | _ => cases h
theorem qOps_kp {O : Orc} (hO : KPO O) {n0 : Nat} : ∀ {ops : List (IOper × List Nat × QK)} {env : Env} {m : Mem} {k : Env → Mem → Option Out} {kp : Value → Mem → Option Out} {r : Out}, qOps O n0 ops env m k kp = some r → (∃ e m1, KP m m1 ∧ k e m1 = some r) ∨ ∃ v m1, KP m m1 ∧ kp v m1 = some r := by
  intro ops
  induction ops with
  | nil => intro env m k kp r h; exact .inl ⟨_, _, .refl _, h⟩
  | cons o t ih =>
    intro env m k kp r h
    rcases guarded_gok h with ⟨hg, h⟩ | ⟨_, h⟩
    · rcases qDo_cases (x := o) hg h with ⟨p, h1, _, h3⟩ | ⟨l, v, m', _, _, h1, h2⟩
      · have h0 := qRun_kp hO h1
        rcases ih h3 with ⟨e, m1, h1, h2⟩ | ⟨e, m1, h1, h2⟩
        · exact .inl ⟨e, m1, h0.trans h1, h2⟩
        · exact .inr ⟨e, m1, h0.trans h1, h2⟩
      · exact .inr ⟨v, m', qPan1_kp hO h1, h2⟩
    · exact ih h
theorem ev_kp {O : Orc} (hO : KPO O) : ∀ {c : IC} {env : Env} {m : Mem} {d : List Dfr} {k : Kont} {r : Out}, ev O c env m d k = some r → ∃ x e m1 d1, KP m m1 ∧ k x e m1 d1 = some r := by
  intro c
  induction c with
  | skip => intro env m d k r h; exact ⟨_, _, _, _, .refl _, h⟩
  | region ops => intro env m d k r h; exact evOps_kp hO h
  | draws ops =>
    intro env m d k r h
    rcases qOps_kp hO h with ⟨e, m1, h1, h2⟩ | ⟨v, m1, h1, h2⟩
    · exact ⟨_, e, m1, _, h1, h2⟩
    · exact ⟨_, _, m1, _, h1, h2⟩
  | seq a b iha ihb =>
    intro env m d k r h
    obtain ⟨x, e, m1, d1, h1, h2⟩ := iha h
    cases x with
    | normal =>
      obtain ⟨x, e, m2, d2, h3, h4⟩ := ihb h2
      exact ⟨x, e, m2, d2, h1.trans h3, h4⟩
    | _ => exact ⟨_, _, _, _, h1, h2⟩
  | cut keep a b iha ihb =>
    intro env m d k r h
    simp only [ev] at h
    cases ho : ev O a env m d fun x env m d => some ⟨x, keep.map env, m, d⟩ with
    | none => rw [ho] at h; cases h
    | some o =>
      rw [ho] at h
      obtain ⟨x, e, m1, d1, h1, h2⟩ := iha ho
      cases h2
      simp only [Option.bind_some] at h
      cases x with
      | normal =>
        obtain ⟨x, e, m2, d2, h3, h4⟩ := ihb h
        exact ⟨x, e, m2, d2, h1.trans h3, h4⟩
      | _ => exact ⟨_, _, _, _, h1, h⟩
  | cond c t e iht ihe =>
    intro env m d k r h
    simp only [ev] at h
    cases hb : bool? (aev env c) with
    | none => rw [hb] at h; cases h
    | some b =>
      rw [hb] at h
      simp only [Option.bind_some] at h
      split at h
      · exact iht h
      · exact ihe h
  | block id b ih =>
    intro env m d k r h
    obtain ⟨x, e, m1, d1, h1, h2⟩ := ih h
    split at h2
    · split at h2
      · exact ⟨_, _, _, _, h1, h2⟩
      · exact ⟨_, _, _, _, h1, h2⟩
    · exact ⟨_, _, _, _, h1, h2⟩
  | loop l keep =>
    intro env m d k r h
    simp only [ev] at h
    cases ho : O (.loop l) (keep.map env) m d with
    | none => rw [ho] at h; cases h
    | some o =>
      rw [ho] at h
      simp only [Option.bind_some] at h
      split at h
      · cases h
      · exact ⟨_, _, _, _, hO _ _ _ _ _ ho, h⟩
  | exit id => intro env m d k r h; exact ⟨_, _, _, _, .refl _, h⟩
  | ret => intro env m d k r h; exact ⟨_, _, _, _, .refl _, h⟩
  | scope b ih => intro env m d k r h; exact ih h
theorem evOpsS_kp {O : Orc} (hO : KPO O) : ∀ {ops : List IOper} {env : Env} {m : Mem} {p : Option Value} {k : KontS} {r : Out}, evOpsS O ops env m p k = some r → ∃ x e m1 p1, KP m m1 ∧ k x e m1 p1 = some r := by
  intro ops
  induction ops with
  | nil => intro env m p k r h; exact ⟨_, _, _, _, .refl _, h⟩
  | cons o t ih =>
    intro env m p k r h
    unfold evOpsS at h
    cases hr : recov? o <;> simp only [hr] at h
    · obtain ⟨x, e, m1, d1, h1, h2⟩ := evOp_kp hO h
      split at h2
      · obtain ⟨x, e, m2, d2, h3, h4⟩ := ih h2
        exact ⟨x, e, m2, d2, h1.trans h3, h4⟩
      · cases h2
    · exact ih h
theorem evS_rest_kp {O : Orc} (hO : KPO O) {c : IC} {env : Env} {m : Mem} {p : Option Value} {k : KontS} {r : Out}
    (h : (ev O c env m [] fun x env m d => match x, d with | .normal, [] => k .normal env m p | .ret, [] => k .ret env m p | _, _ => none) = some r) : ∃ x e m1 p1, KP m m1 ∧ k x e m1 p1 = some r := by
  obtain ⟨x, e, m1, d1, h1, h2⟩ := ev_kp hO h
  split at h2
  · exact ⟨_, _, _, _, h1, h2⟩
  · exact ⟨_, _, _, _, h1, h2⟩
  · cases h2
theorem evS_kp {O : Orc} (hO : KPO O) : ∀ {c : IC} {env : Env} {m : Mem} {p : Option Value} {k : KontS} {r : Out}, evS O c env m p k = some r → ∃ x e m1 p1, KP m m1 ∧ k x e m1 p1 = some r := by
  intro c
  induction c with
  | skip => intro env m p k r h; exact ⟨_, _, _, _, .refl _, h⟩
  | region ops => intro env m p k r h; exact evOpsS_kp hO h
  | seq a b iha ihb =>
    intro env m p k r h
    obtain ⟨x, e, m1, d1, h1, h2⟩ := iha h
    cases x with
    | normal =>
      obtain ⟨x, e, m2, d2, h3, h4⟩ := ihb h2
      exact ⟨x, e, m2, d2, h1.trans h3, h4⟩
    | _ => exact ⟨_, _, _, _, h1, h2⟩
  | cond c t e iht ihe =>
    intro env m p k r h
    simp only [evS] at h
    cases hb : bool? (aev env c) with
    | none => rw [hb] at h; cases h
    | some b =>
      rw [hb] at h
      simp only [Option.bind_some] at h
      split at h
      · exact iht h
      · exact ihe h
  | ret => intro env m p k r h; exact ⟨_, _, _, _, .refl _, h⟩
  | draws ops => intro env m p k r h; exact evS_rest_kp hO h
  | cut keep a b => intro env m p k r h; exact evS_rest_kp hO h
  | block id b => intro env m p k r h; exact evS_rest_kp hO h
  | loop l keep => intro env m p k r h; exact evS_rest_kp hO h
  | exit id => intro env m p k r h; exact evS_rest_kp hO h
  | scope b => intro env m p k r h; exact evS_rest_kp hO h
theorem leaves_kp {O : Orc} (hO : KPO O) {fn : IFun} {env : Env} : ∀ {ds : List Dfr} {p : Option Value} {m : Mem} {r : Out}, leaves O fn env ds p m = some r → KP m r.m := by
  intro ds
  induction ds with
  | nil =>
    intro p m r h
    cases p with
    | none =>
      simp only [leaves] at h
      cases hv : resOf fn env m with
      | none => rw [hv] at h; cases h
      | some v => rw [hv] at h; cases h; exact .refl _
    | some v => cases h; exact .refl _
  | cons df ds ih =>
    intro p m r h
    simp only [leaves] at h
    cases ho : O (.dcall df.f p) df.args m [] with
    | none => rw [ho] at h; cases h
    | some o =>
      rw [ho] at h
      simp only [Option.bind_some] at h
      split at h
      · exact (hO _ _ _ _ _ ho).trans (ih h)
      · cases h
def GKP (C : Code?) : Prop := ∀ f g, C.gv f = some g → ∀ args m v m', g args m = some (v, m') → KP m m'
theorem E_kp {C : Code?} (hg : GKP C) (n : Nat) : KPO (E C n) := by
  induction n with
  | zero => intro k a m d r h; cases h
  | succ n ih =>
    intro k a m d r h
    cases k with
    | call f =>
      simp only [E, step1] at h
      split at h
      · rename_i g hgv
        cases hv : g a m with
        | none => rw [hv] at h; cases h
        | some p => rw [hv] at h; cases h; exact hg f g hgv a m p.1 p.2 hv
      · cases hf : C.irs f with
        | none => rw [hf] at h; cases h
        | some fn =>
          rw [hf] at h
          simp only [Option.bind_some] at h
          split at h
          · obtain ⟨x, e, m1, d1, h1, h2⟩ := ev_kp ih h
            cases x with
            | normal => exact h1.trans (leaves_kp ih h2)
            | ret => exact h1.trans (leaves_kp ih h2)
            | panic v => exact h1.trans (leaves_kp ih h2)
            | exit id => cases h2
          · cases h
    | loop l =>
      simp only [E, step1] at h
      cases hf : C.lps l with
      | none => rw [hf] at h; cases h
      | some p =>
        rw [hf] at h
        simp only [Option.bind_some] at h
        obtain ⟨x, e, m1, d1, h1, h2⟩ := ev_kp ih h
        cases x with
        | normal => exact h1.trans (ih _ _ _ _ _ h2)
        | _ => cases h2; exact h1
    | dcall f pan =>
      simp only [E, step1] at h
      cases hf : C.irs f with
      | none => rw [hf] at h; cases h
      | some fn =>
        rw [hf] at h
        simp only [Option.bind_some] at h
        split at h
        · obtain ⟨x, e, m1, d1, h1, h2⟩ := evS_kp ih h
          unfold finS at h2
          split at h2
          · cases hr : resOf fn e m1 with
            | none => rw [hr] at h2; cases h2
            | some v => rw [hr] at h2; cases h2; exact h1
          · cases hr : resOf fn e m1 with
            | none => rw [hr] at h2; cases h2
            | some v => rw [hr] at h2; cases h2; exact h1
          · cases h2
        · cases h
end Go.Proofs.Ytjojfpmelhaknaa.D
