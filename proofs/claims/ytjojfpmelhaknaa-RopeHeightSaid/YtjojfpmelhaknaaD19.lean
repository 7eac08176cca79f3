/-
  A deterministic reading of the program's code: without a count of rounds.
-/
import Derived.Test.YtjojfpmelhaknaaD18
namespace Go.Proofs.Ytjojfpmelhaknaa.D
open Go.RowKit
set_option linter.unusedVariables false
set_option linter.unusedSimpArgs false

open Classical in
/-- What a call, or a loop, comes to: with as many rounds as it takes. -/
noncomputable def L (C : Code?) : Orc := fun k a m d => if h : ∃ n out, E C n k a m d = some out then some h.choose_spec.choose else none
theorem L_some {C : Code?} {k : Key} {a : List Value} {m : Mem} {d : List Dfr} {r : Out} : L C k a m d = some r ↔ ∃ n, E C n k a m d = some r := by
  unfold L
  constructor
  · intro h
    split at h
    · rename_i hx
      cases h
      exact ⟨_, hx.choose_spec.choose_spec⟩
    · cases h
  · rintro ⟨n, hn⟩
    have hx : ∃ n out, E C n k a m d = some out := ⟨n, r, hn⟩
    rw [dif_pos hx]
    have h2 := hx.choose_spec.choose_spec
    have e1 := E_mono C (Nat.le_max_left n hx.choose) _ _ _ _ _ hn
    have e2 := E_mono C (Nat.le_max_right n hx.choose) _ _ _ _ _ h2
    rw [e1] at e2
    exact e2.symm
/-- In the end. -/
def Ev (f : Nat → Option Out) (r : Out) : Prop := ∃ n, ∀ j, n ≤ j → f j = some r
def EvO (O : Orc) (On : Nat → Orc) : Prop := ∀ k a m d r, O k a m d = some r → Ev (fun n => On n k a m d) r
def EvK (k : Kont) (kn : Nat → Kont) : Prop := ∀ x e m d r, k x e m d = some r → Ev (fun n => kn n x e m d) r
theorem Ev.const {x : Option Out} {r : Out} (h : x = some r) : Ev (fun _ => x) r := ⟨0, fun _ _ => h⟩
theorem Ev.bindc {α : Type} {x : Option α} {f : α → Option Out} {fn : Nat → α → Option Out} {r : Out} (hf : ∀ a r, f a = some r → Ev (fun n => fn n a) r) (h : x.bind f = some r) : Ev (fun n => x.bind (fn n)) r := by
  cases x with
  | none => cases h
  | some a => exact hf a r h
theorem Ev.bind {x : Option Out} {xn : Nat → Option Out} {f : Out → Option Out} {fn : Nat → Out → Option Out} {r : Out} (hx : ∀ a, x = some a → Ev xn a) (hf : ∀ a r, f a = some r → Ev (fun n => fn n a) r) (h : x.bind f = some r) : Ev (fun n => (xn n).bind (fn n)) r := by
  cases x with
  | none => cases h
  | some a =>
    obtain ⟨n1, h1⟩ := hx a rfl
    obtain ⟨n2, h2⟩ := hf a r h
    exact ⟨max n1 n2, fun j hj => by simp only [h1 j (by omega), Option.bind_some]; exact h2 j (by omega)⟩
section
variable {O : Orc} {On : Nat → Orc}
theorem thenK_ev {o : Out} {dst : Option Nat} {env : Env} {d : List Dfr} {k : Kont} {kn : Nat → Kont} (hk : EvK k kn) {r : Out} (h : thenK o dst env d k = some r) : Ev (fun n => thenK o dst env d (kn n)) r := by
  unfold thenK at h ⊢
  cases hx : o.x <;> simp only [hx] at h ⊢ <;> first
    | exact Ev.bindc (fun v r h => hk _ _ _ _ r h) h
    | exact hk _ _ _ _ r h
    | cases h
theorem evOp1_ev (hO : EvO O On) {op : IOp} {dst : Option Nat} {env : Env} {m : Mem} {d : List Dfr} {k : Kont} {kn : Nat → Kont} (hk : EvK k kn) {r : Out} (h : evOp1 O op dst env m d k = some r) : Ev (fun n => evOp1 (On n) op dst env m d (kn n)) r := by
  cases op with
  | plain p => exact Ev.bindc (fun v r h => hk _ _ _ _ r h) h
  | call f as => exact Ev.bind (fun _ h => hO _ _ _ _ _ h) (fun v r h => thenK_ev hk h) h
  | callV x as => exact Ev.bindc (fun c r h => Ev.bind (fun _ h => hO _ _ _ _ _ h) (fun v r h => thenK_ev hk h) h) h
  | dfr x as => exact Ev.bindc (fun v r h => hk _ _ _ _ r h) h
  | panic x => cases hv : aev env x <;> simp only [evOp1, hv] at h ⊢ <;> first | exact hk _ _ _ _ r h | cases h
  | recover => cases h
theorem guarded_yes : ∀ {g : List (Nat × Bool)} {env : Env} {a b : Option Out}, gok g env = some true → guarded g env a b = a := by
  intro g
  induction g with
  | nil => intro env a b h; rfl
  | cons p t ih =>
    intro env a b h
    obtain ⟨x, want⟩ := p
    unfold gok at h
    unfold guarded
    cases hb : bool? (env x) with
    | none => rw [hb] at h; cases h
    | some c =>
      rw [hb] at h
      simp only [Option.bind_some] at h ⊢
      split at h
      · rw [if_pos ‹_›]; exact ih h
      · split at h
        · cases h
        · split at h <;> cases h
theorem guarded_no : ∀ {g : List (Nat × Bool)} {env : Env} {a b : Option Out}, gok g env = some false → guarded g env a b = b := by
  intro g
  induction g with
  | nil => intro env a b h; cases h
  | cons p t ih =>
    intro env a b h
    obtain ⟨x, want⟩ := p
    unfold gok at h
    unfold guarded
    cases hb : bool? (env x) with
    | none => rw [hb] at h; cases h
    | some c =>
      rw [hb] at h
      simp only [Option.bind_some] at h ⊢
      split at h
      · rw [if_pos ‹_›]; exact ih h
      · rw [if_neg ‹_›]
        cases hl : t.getLast? with
        | none => rfl
        | some q =>
          rw [hl] at h
          simp only at h ⊢
          split at h
          · rw [if_pos ‹_›]
          · cases h
theorem guarded_ev {g : List (Nat × Bool)} {env : Env} {a b : Option Out} {an bn : Nat → Option Out} {r : Out} (ha : ∀ r, a = some r → Ev an r) (hb : ∀ r, b = some r → Ev bn r) (h : guarded g env a b = some r) : Ev (fun n => guarded g env (an n) (bn n)) r := by
  rcases guarded_gok h with ⟨h1, h2⟩ | ⟨h1, h2⟩
  · obtain ⟨n, hn⟩ := ha r h2
    exact ⟨n, fun j hj => by simp only [guarded_yes h1]; exact hn j hj⟩
  · obtain ⟨n, hn⟩ := hb r h2
    exact ⟨n, fun j hj => by simp only [guarded_no h1]; exact hn j hj⟩
theorem evOp_ev (hO : EvO O On) {o : IOper} {env : Env} {m : Mem} {d : List Dfr} {k : Kont} {kn : Nat → Kont} (hk : EvK k kn) {r : Out} (h : evOp O o env m d k = some r) : Ev (fun n => evOp (On n) o env m d (kn n)) r :=
  guarded_ev (fun _ h => evOp1_ev hO hk h) (fun _ h => hk _ _ _ _ _ h) h
theorem evOps_ev (hO : EvO O On) : ∀ {ops : List IOper} {env : Env} {m : Mem} {d : List Dfr} {k : Kont} {kn : Nat → Kont}, EvK k kn → ∀ {r : Out}, evOps O ops env m d k = some r → Ev (fun n => evOps (On n) ops env m d (kn n)) r := by
  intro ops
  induction ops with
  | nil => intro env m d k kn hk r h; exact hk _ _ _ _ r h
  | cons o t ih =>
    intro env m d k kn hk r h
    refine evOp_ev hO (fun x e m d r h => ?_) h
    cases x with
    | normal => exact ih hk h
    | _ => exact hk _ _ _ _ r h
theorem qOp1_ev (hO : EvO O On) {op : IOp} {env : Env} {m : Mem} {r : Value × Mem} (h : qOp1 O op env m = some r) : ∃ n, ∀ j, n ≤ j → qOp1 (On j) op env m = some r := by
  have key : ∀ (k : Key) (l : List Value) (m : Mem), ((O k l m []).bind fun o => match o.x with | .ret => (o.vals.head?).bind fun v => some (v, o.m) | _ => none) = some r → ∃ n, ∀ j, n ≤ j → ((On j k l m []).bind fun o => match o.x with | .ret => (o.vals.head?).bind fun v => some (v, o.m) | _ => none) = some r := by
    intro k l m h
    cases ho : O k l m [] with
    | none => rw [ho] at h; cases h
    | some o =>
      rw [ho] at h
      obtain ⟨n, hn⟩ := hO _ _ _ _ _ ho
      exact ⟨n, fun j hj => by have e := hn j hj; simp only at e; rw [e]; exact h⟩
  cases op with
  | plain p => exact ⟨0, fun _ _ => h⟩
  | call f as => exact key _ _ _ h
  | callV x as =>
    simp only [qOp1] at h ⊢
    cases hf : fn? (aev env x) with
    | none => rw [hf] at h; cases h
    | some c => rw [hf] at h; exact key _ _ _ h
  | _ => cases h
theorem qRun_ev (hO : EvO O On) {o : IOper} {q : QK} {env : Env} {m : Mem} {r : Value × Mem} (h : qRun O o q env m = some r) : ∃ n, ∀ j, n ≤ j → qRun (On j) o q env m = some r := by
  cases q with
  | pure => exact qOp1_ev hO h
  | lone => exact qOp1_ev hO h
  | peek => exact qOp1_ev hO h
  | quiet =>
    simp only [qRun] at h ⊢
    cases hq : qOp1 O o.op env (m.floor m.next) with
    | none => rw [hq] at h; cases h
    | some p =>
      rw [hq] at h
      obtain ⟨n, hn⟩ := qOp1_ev hO hq
      exact ⟨n, fun j hj => by rw [hn j hj]; exact h⟩
theorem qPan1_ev (hO : EvO O On) {op : IOp} {env : Env} {m : Mem} {r : Value × Mem} (h : qPan1 O op env m = some r) : ∃ n, ∀ j, n ≤ j → qPan1 (On j) op env m = some r := by
  have key : ∀ (k : Key) (l : List Value) (m : Mem), ((O k l m []).bind fun o => match o.x with | .panic v => some (v, o.m) | _ => none) = some r → ∃ n, ∀ j, n ≤ j → ((On j k l m []).bind fun o => match o.x with | .panic v => some (v, o.m) | _ => none) = some r := by
    intro k l m h
    cases ho : O k l m [] with
    | none => rw [ho] at h; cases h
    | some o =>
      rw [ho] at h
      obtain ⟨n, hn⟩ := hO _ _ _ _ _ ho
      exact ⟨n, fun j hj => by have e := hn j hj; simp only at e; rw [e]; exact h⟩
  cases op with
  | call f as => exact key _ _ _ h
  | callV x as =>
    simp only [qPan1] at h ⊢
    cases hf : fn? (aev env x) with
    | none => rw [hf] at h; cases h
    | some c => rw [hf] at h; exact key _ _ _ h
  | _ => cases h
theorem qOps_ev (hO : EvO O On) {n0 : Nat} : ∀ {ops : List (IOper × List Nat × QK)} {env : Env} {m : Mem} {k : Env → Mem → Option Out} {kn : Nat → Env → Mem → Option Out} {kp : Value → Mem → Option Out} {kpn : Nat → Value → Mem → Option Out}, (∀ e m r, k e m = some r → Ev (fun n => kn n e m) r) → (∀ v m r, kp v m = some r → Ev (fun n => kpn n v m) r) → ∀ {r : Out}, qOps O n0 ops env m k kp = some r → Ev (fun n => qOps (On n) n0 ops env m (kn n) (kpn n)) r := by
  intro ops
  induction ops with
  | nil => intro env m k kn kp kpn hk hp r h; exact hk _ _ r h
  | cons o t ih =>
    intro env m k kn kp kpn hk hp r h
    refine guarded_ev (fun r h => ?_) (fun _ h => ih hk hp h) h
    unfold qDo at h ⊢
    cases hq : o.2.2 with
    | lone pan chk =>
      rw [hq] at h
      simp only at h ⊢
      cases hq1 : qOp1 O o.1.op (mask o.2.1 env) m with
      | some p =>
        rw [hq1] at h
        simp only at h
        obtain ⟨n1, h1⟩ := qOp1_ev hO hq1
        split at h
        · obtain ⟨n2, h2⟩ := ih hk hp h
          exact ⟨max n1 n2, fun j hj => by simp only [h1 j (by omega)]; rw [if_pos ‹_›]; exact h2 j (by omega)⟩
        · cases h
      | none =>
        rw [hq1] at h
        simp only at h
        split at h
        · cases hq2 : qPan1 O o.1.op (mask o.2.1 env) m with
          | none => rw [hq2] at h; cases h
          | some p =>
            rw [hq2] at h
            obtain ⟨n1, h1⟩ := qPan1_ev hO hq2
            obtain ⟨n2, h2⟩ := hp _ _ _ h
            exact ⟨max n1 n2, fun j hj => by simp only [qPan1_none (h1 j (by omega)), h1 j (by omega)]; rw [if_pos ‹_›]; exact h2 j (by omega)⟩
        · cases h
    | _ =>
      rw [hq] at h
      simp only at h ⊢
      cases hq1 : qRun O o.1 _ (mask o.2.1 env) m with
      | none => rw [hq1] at h; cases h
      | some p =>
        rw [hq1] at h
        obtain ⟨n1, h1⟩ := qRun_ev hO hq1
        obtain ⟨n2, h2⟩ := ih hk hp h
        exact ⟨max n1 n2, fun j hj => by simp only [h1 j (by omega), Option.bind_some]; exact h2 j (by omega)⟩
theorem ev_ev (hO : EvO O On) : ∀ {c : IC} {env : Env} {m : Mem} {d : List Dfr} {k : Kont} {kn : Nat → Kont}, EvK k kn → ∀ {r : Out}, ev O c env m d k = some r → Ev (fun n => ev (On n) c env m d (kn n)) r := by
  intro c
  induction c with
  | skip => intro env m d k kn hk r h; exact hk _ _ _ _ r h
  | region ops => intro env m d k kn hk r h; exact evOps_ev hO hk h
  | draws ops => intro env m d k kn hk r h; exact qOps_ev hO (fun e m r h => hk _ _ _ _ r h) (fun v m r h => hk _ _ _ _ r h) h
  | seq a b iha ihb =>
    intro env m d k kn hk r h
    refine iha (fun x e m d r h => ?_) h
    cases x with
    | normal => exact ihb hk h
    | _ => exact hk _ _ _ _ r h
  | cut keep a b iha ihb =>
    intro env m d k kn hk r h
    refine Ev.bind (fun o h => iha (kn := fun _ x env m d => some ⟨x, keep.map env, m, d⟩) (fun x e m d r h => Ev.const h) h) (fun o r h => ?_) h
    cases hx : o.x <;> simp only [hx] at h ⊢ <;> first
      | exact ihb hk h
      | exact hk _ _ _ _ r h
  | cond c t e iht ihe =>
    intro env m d k kn hk r h
    refine Ev.bindc (fun b r h => ?_) h
    cases b with
    | true => exact iht hk h
    | false => exact ihe hk h
  | block id b ih =>
    intro env m d k kn hk r h
    refine ih (fun x e m d r h => ?_) h
    cases x with
    | exit j =>
      simp only at h ⊢
      split at h
      · simp only [if_pos ‹j = id›]; exact hk _ _ _ _ r h
      · simp only [if_neg ‹¬ j = id›]; exact hk _ _ _ _ r h
    | _ => exact hk _ _ _ _ r h
  | loop l keep =>
    intro env m d k kn hk r h
    refine Ev.bind (fun _ h => hO _ _ _ _ _ h) (fun o r h => ?_) h
    cases hx : o.x <;> simp only [hx] at h ⊢ <;> first
      | exact hk _ _ _ _ r h
      | cases h
  | exit id => intro env m d k kn hk r h; exact hk _ _ _ _ r h
  | ret => intro env m d k kn hk r h; exact hk _ _ _ _ r h
  | scope b ih => intro env m d k kn hk r h; exact ih hk h
def EvKS (k : KontS) (kn : Nat → KontS) : Prop := ∀ x e m p r, k x e m p = some r → Ev (fun n => kn n x e m p) r
theorem evOpsS_ev (hO : EvO O On) : ∀ {ops : List IOper} {env : Env} {m : Mem} {p : Option Value} {k : KontS} {kn : Nat → KontS}, EvKS k kn → ∀ {r : Out}, evOpsS O ops env m p k = some r → Ev (fun n => evOpsS (On n) ops env m p (kn n)) r := by
  intro ops
  induction ops with
  | nil => intro env m p k kn hk r h; exact hk _ _ _ _ r h
  | cons o t ih =>
    intro env m p k kn hk r h
    unfold evOpsS at h ⊢
    cases hr : recov? o <;> simp only [hr] at h ⊢
    rotate_left
    · exact ih hk h
    · refine evOp_ev hO (fun x e m d r h => ?_) h
      cases x with
      | normal =>
        cases d with
        | nil => exact ih hk h
        | cons _ _ => cases h
      | _ => cases h
theorem evS_rest_ev (hO : EvO O On) {c : IC} {env : Env} {m : Mem} {p : Option Value} {k : KontS} {kn : Nat → KontS} (hk : EvKS k kn) {r : Out}
    (h : (ev O c env m [] fun x env m d => match x, d with | .normal, [] => k .normal env m p | .ret, [] => k .ret env m p | _, _ => none) = some r) :
    Ev (fun n => ev (On n) c env m [] fun x env m d => match x, d with | .normal, [] => kn n .normal env m p | .ret, [] => kn n .ret env m p | _, _ => none) r := by
  refine ev_ev hO (fun x e m d r h => ?_) h
  cases x <;> cases d <;> first
    | exact hk _ _ _ _ r h
    | cases h
theorem evS_ev (hO : EvO O On) : ∀ {c : IC} {env : Env} {m : Mem} {p : Option Value} {k : KontS} {kn : Nat → KontS}, EvKS k kn → ∀ {r : Out}, evS O c env m p k = some r → Ev (fun n => evS (On n) c env m p (kn n)) r := by
  intro c
  induction c with
  | skip => intro env m p k kn hk r h; exact hk _ _ _ _ r h
  | region ops => intro env m p k kn hk r h; exact evOpsS_ev hO hk h
  | seq a b iha ihb =>
    intro env m p k kn hk r h
    refine iha (fun x e m p r h => ?_) h
    cases x with
    | normal => exact ihb hk h
    | _ => exact hk _ _ _ _ r h
  | cond c t e iht ihe =>
    intro env m p k kn hk r h
    refine Ev.bindc (fun b r h => ?_) h
    cases b with
    | true => exact iht hk h
    | false => exact ihe hk h
  | ret => intro env m p k kn hk r h; exact hk _ _ _ _ r h
  | draws ops => intro env m p k kn hk r h; exact evS_rest_ev hO hk h
  | cut keep a b => intro env m p k kn hk r h; exact evS_rest_ev hO hk h
  | block id b => intro env m p k kn hk r h; exact evS_rest_ev hO hk h
  | loop l keep => intro env m p k kn hk r h; exact evS_rest_ev hO hk h
  | exit id => intro env m p k kn hk r h; exact evS_rest_ev hO hk h
  | scope b => intro env m p k kn hk r h; exact evS_rest_ev hO hk h
theorem leaves_ev (hO : EvO O On) {fn : IFun} {env : Env} : ∀ {ds : List Dfr} {p : Option Value} {m : Mem} {r : Out}, leaves O fn env ds p m = some r → Ev (fun n => leaves (On n) fn env ds p m) r := by
  intro ds
  induction ds with
  | nil => intro p m r h; cases p <;> exact Ev.const h
  | cons df ds ih =>
    intro p m r h
    refine Ev.bind (fun _ h => hO _ _ _ _ _ h) (fun o r h => ?_) h
    obtain ⟨x, vals, m', d'⟩ := o
    cases x <;> first
      | (cases h; done)
      | skip
    rcases vals with _ | ⟨v, _ | ⟨v2, t⟩⟩
    · cases h
    · cases v <;> first
        | exact ih h
        | cases h
    · cases v <;> cases h
theorem fin_ev (hO : EvO O On) (fn : IFun) : EvK (fin O fn) (fun n => fin (On n) fn) := by
  intro x e m d r h
  cases x with
  | normal => exact leaves_ev hO h
  | ret => exact leaves_ev hO h
  | panic v => exact leaves_ev hO h
  | exit id => cases h
theorem step1_ev {C : Code?} (hO : EvO O On) : EvO (step1 C O) (fun n => step1 C (On n)) := by
  intro k a m d r h
  cases k with
  | call f =>
    show Ev (fun n => step1 C (On n) (.call f) a m d) r
    cases hg : C.gv f with
    | some g => simp only [step1, hg] at h ⊢; exact Ev.const h
    | none =>
      simp only [step1, hg] at h ⊢
      refine Ev.bindc (fun fn r h => ?_) h
      by_cases hl : a.length ≤ fn.n
      · simp only [if_pos hl] at h ⊢; exact ev_ev hO (fin_ev hO fn) h
      · rw [if_neg hl] at h; cases h
  | loop l =>
    refine Ev.bindc (fun p r h => ev_ev hO (fun x e m d r h => ?_) h) h
    cases x with
    | normal => exact hO _ _ _ _ _ h
    | _ => exact Ev.const h
  | dcall f pan =>
    refine Ev.bindc (fun fn r h => ?_) h
    split at h
    · simp only [if_pos ‹a.length ≤ fn.n›]; exact evS_ev hO (kn := fun _ => finS fn pan) (fun _ _ _ _ _ h => Ev.const h) h
    · cases h
end
theorem L_ev (C : Code?) : EvO (L C) (E C) := by
  intro k a m d r h
  obtain ⟨n, hn⟩ := L_some.1 h
  exact ⟨n, fun j hj => E_mono C hj _ _ _ _ _ hn⟩
theorem E_le_L (C : Code?) (n : Nat) : Le (E C n) (L C) := fun k a m d r h => L_some.2 ⟨n, h⟩
/-- The reading, as an equation. -/
theorem L_eq (C : Code?) (k : Key) (a : List Value) (m : Mem) (d : List Dfr) : L C k a m d = step1 C (L C) k a m d := by
  apply Option.ext
  intro r
  constructor
  · intro h
    obtain ⟨n, hn⟩ := L_some.1 h
    cases n with
    | zero => cases hn
    | succ n => exact step1_le (E_le_L C n) k a m d r hn
  · intro h
    obtain ⟨n, hn⟩ := step1_ev (L_ev C) k a m d r h
    exact L_some.2 ⟨n + 1, hn n (Nat.le_refl _)⟩
theorem L_call {C : Code?} {f : FuncId} {fn : IFun} (hg : C.gv f = none) (hf : C.irs f = some fn) (a : List Value) (m : Mem) (d : List Dfr) (hn : a.length ≤ fn.n) : L C (.call f) a m d = ev (L C) fn.body (envOf a) m [] (fin (L C) fn) := by
  rw [L_eq]
  simp only [step1, hg, hf, Option.bind_some, if_pos hn]
theorem L_given {C : Code?} {f : FuncId} {g : List Value → Mem → Option (Value × Mem)} (hg : C.gv f = some g) (a : List Value) (m : Mem) (d : List Dfr) : L C (.call f) a m d = (g a m).bind fun r => some ⟨.ret, [r.1], r.2, []⟩ := by
  rw [L_eq]
  simp only [step1, hg]
theorem L_loop {C : Code?} {l : Nat} {keep : List Nat} {b : IC} (hl : C.lps l = some (keep, b)) (vals : List Value) (m : Mem) (d : List Dfr) : L C (.loop l) vals m d = ev (L C) b (unpack keep vals) m d (again (L C) l keep) := by
  rw [L_eq]
  simp only [step1, hl, Option.bind_some]
theorem L_dcall {C : Code?} {f : FuncId} {fn : IFun} {pan : Option Value} (hf : C.irs f = some fn) (a : List Value) (m : Mem) (d : List Dfr) (hn : a.length ≤ fn.n) : L C (.dcall f pan) a m d = evS (L C) fn.body (envOf a) m pan (finS fn pan) := by
  rw [L_eq]
  simp only [step1, hf, Option.bind_some, if_pos hn]
theorem L_sound {cx : Cx} {C : Code?} (G : GS cx C) : OS cx C (L C) := by
  refine ⟨?_, ?_, ?_⟩
  · intro f args m out h
    obtain ⟨n, hn⟩ := L_some.1 h
    exact (E_sound G n).call f args m out hn
  · intro l vals m d out h
    obtain ⟨n, hn⟩ := L_some.1 h
    exact (E_sound G n).loop l vals m d out hn
  · intro f pan args m out h
    obtain ⟨n, hn⟩ := L_some.1 h
    exact (E_sound G n).dcall f pan args m out hn
end Go.Proofs.Ytjojfpmelhaknaa.D
