/-
  The second reading, without a count of rounds; and its printed form.
-/
import Derived.Test.YtjojfpmelhaknaaV5
namespace Go.Proofs.Ytjojfpmelhaknaa.D
open Go.RowKit
set_option linter.unusedVariables false
set_option linter.unusedSimpArgs false
theorem evOp1_leV {O O' : Orc} (hO : Le O O') {op : IOp} {dst : Option Nat} {env : Env} {m : Mem} {d : List Dfr} {k k' : Kont} (hk : KLe k k') {r : Out} (h : evOp1V O op dst env m d k = some r) : evOp1V O' op dst env m d k' = some r := by
  cases op with
  | plain p => exact bind_le (fun _ h => h) (fun v r h => hk _ _ _ _ r h) h
  | call f as => exact bind_le (fun _ h => hO _ _ _ _ _ h) (fun v r h => thenK_le hk h) h
  | callV x as => exact bind_le (fun _ h => h) (fun c r h => bind_le (fun _ h => hO _ _ _ _ _ h) (fun v r h => thenK_le hk h) h) h
  | dfr x as => exact bind_le (fun _ h => h) (fun v r h => hk _ _ _ _ r h) h
  | panic x =>
    cases hv : aev env x <;> simp only [evOp1V, hv] at h ⊢ <;> first
      | (split at h
         · cases h
         · rw [if_neg ‹_›]; exact hk _ _ _ _ r h)
      | cases h
  | recover => cases h
theorem evOp_leV {O O' : Orc} (hO : Le O O') {o : IOper} {env : Env} {m : Mem} {d : List Dfr} {k k' : Kont} (hk : KLe k k') {r : Out} (h : evOpV O o env m d k = some r) : evOpV O' o env m d k' = some r :=
  guarded_le (fun _ h => evOp1_leV hO hk h) (fun _ h => hk _ _ _ _ _ h) h
theorem evOps_leV {O O' : Orc} (hO : Le O O') : ∀ {ops : List IOper} {env : Env} {m : Mem} {d : List Dfr} {k k' : Kont}, KLe k k' → ∀ {r : Out}, evOpsV O ops env m d k = some r → evOpsV O' ops env m d k' = some r := by
  intro ops
  induction ops with
  | nil => intro env m d k k' hk r h; exact hk _ _ _ _ r h
  | cons o t ih =>
    intro env m d k k' hk r h
    refine evOp_leV hO (fun x e m d r h => ?_) h
    cases x with
    | normal => exact ih hk h
    | _ => exact hk _ _ _ _ r h
theorem qOp1_leV {O O' : Orc} (hO : Le O O') {op : IOp} {env : Env} {m : Mem} {r : Value × Mem} (h : qOp1V O op env m = some r) : qOp1V O' op env m = some r := by
  have key : ∀ (k : Key) (l : List Value) (m : Mem), ((O k l m []).bind fun o => match o.x with | .ret => (o.vals.head?).bind fun v => some (v, o.m) | _ => none) = some r → ((O' k l m []).bind fun o => match o.x with | .ret => (o.vals.head?).bind fun v => some (v, o.m) | _ => none) = some r := by
    intro k l m h
    cases ho : O k l m [] with
    | none => rw [ho] at h; cases h
    | some o => rw [ho] at h; rw [hO _ _ _ _ _ ho]; exact h
  cases op with
  | plain p => exact h
  | call f as => exact key _ _ _ h
  | callV x as =>
    simp only [qOp1V] at h ⊢
    cases hf : fn? (aev env x) with
    | none => rw [hf] at h; cases h
    | some c => rw [hf] at h; exact key _ _ _ h
  | _ => cases h
theorem qRun_leV {O O' : Orc} (hO : Le O O') {o : IOper} {q : QK} {env : Env} {m : Mem} {r : Value × Mem} (h : qRunV O o q env m = some r) : qRunV O' o q env m = some r := by
  cases q with
  | pure => exact qOp1_leV hO h
  | lone => exact qOp1_leV hO h
  | peek => exact qOp1_leV hO h
  | quiet =>
    simp only [qRunV] at h ⊢
    cases hq : qOp1V O o.op env (m.floor m.next) with
    | none => rw [hq] at h; cases h
    | some p => rw [hq] at h; rw [qOp1_leV hO hq]; exact h
theorem qPan1_noneV {O : Orc} {op : IOp} {env : Env} {m : Mem} {r : Value × Mem} (h : qPan1 O op env m = some r) : qOp1V O op env m = none := by
  have key : ∀ (k : Key) (l : List Value) (m : Mem), ((O k l m []).bind fun o => match o.x with | .panic v => some (v, o.m) | _ => none) = some r → ((O k l m []).bind fun o => match o.x with | .ret => (o.vals.head?).bind fun v => some (v, o.m) | _ => none) = (none : Option (Value × Mem)) := by
    intro k l m h
    cases ho : O k l m [] with
    | none => rfl
    | some o =>
      rw [ho] at h
      simp only [Option.bind_some] at h ⊢
      split at h
      · rename_i v hv
        rw [hv]
      · cases h
  cases op with
  | call f as => exact key _ _ _ h
  | callV x as =>
    simp only [qPan1, qOp1V] at h ⊢
    cases hf : fn? (aev env x) with
    | none => rfl
    | some c => rw [hf] at h; exact key _ _ _ h
  | _ => cases h
theorem qDo_leV {O O' : Orc} (hO : Le O O') {n0 : Nat} {o : IOper} {rs : List Nat} {q : QK} {env : Env} {m : Mem} {k k' : Env → Mem → Option Out} {kp kp' : Value → Mem → Option Out} (hk : ∀ e m r, k e m = some r → k' e m = some r) (hp : ∀ v m r, kp v m = some r → kp' v m = some r) {r : Out} (h : qDoV O n0 o rs q env m k kp = some r) : qDoV O' n0 o rs q env m k' kp' = some r := by
  cases q with
  | lone pan chk =>
    simp only [qDoV] at h ⊢
    cases hq : qOp1V O o.op (mask rs env) m with
    | some p =>
      rw [hq] at h; rw [qOp1_leV hO hq]
      simp only at h ⊢
      split at h
      · rw [if_pos ‹_›]; exact hk _ _ _ h
      · cases h
    | none =>
      rw [hq] at h
      simp only at h
      split at h
      · cases hq2 : qPan1 O o.op (mask rs env) m with
        | none => rw [hq2] at h; cases h
        | some p =>
          rw [hq2] at h
          have h1 := (qPan1_le hO hq2).1
          rw [h1, qPan1_noneV h1, if_pos ‹_›]
          exact hp _ _ _ h
      · cases h
  | _ => exact bind_le (fun _ h => qRun_leV hO h) (fun _ _ h => hk _ _ _ h) h
theorem qOps_leV {O O' : Orc} (hO : Le O O') {n0 : Nat} : ∀ {ops : List (IOper × List Nat × QK)} {env : Env} {m : Mem} {k k' : Env → Mem → Option Out} {kp kp' : Value → Mem → Option Out}, (∀ e m r, k e m = some r → k' e m = some r) → (∀ v m r, kp v m = some r → kp' v m = some r) → ∀ {r : Out}, qOpsV O n0 ops env m k kp = some r → qOpsV O' n0 ops env m k' kp' = some r := by
  intro ops
  induction ops with
  | nil => intro env m k k' kp kp' hk hp r h; exact hk _ _ r h
  | cons o t ih =>
    intro env m k k' kp kp' hk hp r h
    exact guarded_le (fun _ h => qDo_leV hO (fun _ _ _ h => ih hk hp h) hp h) (fun _ h => ih hk hp h) h
theorem ev_leV {O O' : Orc} (hO : Le O O') : ∀ {c : IC} {env : Env} {m : Mem} {d : List Dfr} {k k' : Kont}, KLe k k' → ∀ {r : Out}, evV O c env m d k = some r → evV O' c env m d k' = some r := by
  intro c
  induction c with
  | skip => intro env m d k k' hk r h; exact hk _ _ _ _ r h
  | region ops => intro env m d k k' hk r h; exact evOps_leV hO hk h
  | draws ops => intro env m d k k' hk r h; exact qOps_leV hO (fun e m r h => hk _ _ _ _ r h) (fun v m r h => hk _ _ _ _ r h) h
  | seq a b iha ihb =>
    intro env m d k k' hk r h
    refine iha (fun x e m d r h => ?_) h
    cases x with
    | normal => exact ihb hk h
    | _ => exact hk _ _ _ _ r h
  | cut keep a b iha ihb =>
    intro env m d k k' hk r h
    refine bind_le (fun o h => iha (fun x e m d r h => h) h) (fun o r h => ?_) h
    split at h
    · exact ihb hk h
    · exact hk _ _ _ _ r h
  | cond c t e iht ihe =>
    intro env m d k k' hk r h
    refine bind_le (fun _ h => h) (fun b r h => ?_) h
    split at h
    · rw [if_pos ‹_›]; exact iht hk h
    · rw [if_neg ‹_›]; exact ihe hk h
  | block id b ih =>
    intro env m d k k' hk r h
    refine ih (fun x e m d r h => ?_) h
    split at h
    · split at h
      · rw [if_pos ‹_›]; exact hk _ _ _ _ r h
      · rw [if_neg ‹_›]; exact hk _ _ _ _ r h
    · exact hk _ _ _ _ r h
  | loop l keep =>
    intro env m d k k' hk r h
    refine bind_le (fun _ h => hO _ _ _ _ _ h) (fun o r h => ?_) h
    split at h
    · cases h
    · exact hk _ _ _ _ r h
  | exit id => intro env m d k k' hk r h; exact hk _ _ _ _ r h
  | ret => intro env m d k k' hk r h; exact hk _ _ _ _ r h
  | scope b ih => intro env m d k k' hk r h; exact ih hk h
theorem evOpsS_leV {O O' : Orc} (hO : Le O O') : ∀ {ops : List IOper} {env : Env} {m : Mem} {p : Option Value} {k k' : KontS}, KSLe k k' → ∀ {r : Out}, evOpsSV O ops env m p k = some r → evOpsSV O' ops env m p k' = some r := by
  intro ops
  induction ops with
  | nil => intro env m p k k' hk r h; exact hk _ _ _ _ r h
  | cons o t ih =>
    intro env m p k k' hk r h
    unfold evOpsSV at h ⊢
    cases hr : recov? o <;> simp only [hr] at h ⊢
    rotate_left
    · exact ih hk h
    · refine evOp_leV hO (fun x e m d r h => ?_) h
      split at h
      · exact ih hk h
      · cases h
theorem evS_rest_leV {O O' : Orc} (hO : Le O O') {c : IC} {env : Env} {m : Mem} {p : Option Value} {k k' : KontS} (hk : KSLe k k') {r : Out}
    (h : (evV O c env m [] fun x env m d => match x, d with | .normal, [] => k .normal env m p | .ret, [] => k .ret env m p | _, _ => none) = some r) :
    (evV O' c env m [] fun x env m d => match x, d with | .normal, [] => k' .normal env m p | .ret, [] => k' .ret env m p | _, _ => none) = some r := by
  refine ev_leV hO (fun x e m d r h => ?_) h
  split at h
  · exact hk _ _ _ _ r h
  · exact hk _ _ _ _ r h
  · cases h
theorem evS_leV {O O' : Orc} (hO : Le O O') : ∀ {c : IC} {env : Env} {m : Mem} {p : Option Value} {k k' : KontS}, KSLe k k' → ∀ {r : Out}, evSV O c env m p k = some r → evSV O' c env m p k' = some r := by
  intro c
  induction c with
  | skip => intro env m p k k' hk r h; exact hk _ _ _ _ r h
  | region ops => intro env m p k k' hk r h; exact evOpsS_leV hO hk h
  | seq a b iha ihb =>
    intro env m p k k' hk r h
    refine iha (fun x e m p r h => ?_) h
    cases x with
    | normal => exact ihb hk h
    | _ => exact hk _ _ _ _ r h
  | cond c t e iht ihe =>
    intro env m p k k' hk r h
    refine bind_le (fun _ h => h) (fun b r h => ?_) h
    split at h
    · rw [if_pos ‹_›]; exact iht hk h
    · rw [if_neg ‹_›]; exact ihe hk h
  | ret => intro env m p k k' hk r h; exact hk _ _ _ _ r h
  | draws ops => intro env m p k k' hk r h; exact evS_rest_leV hO hk h
  | cut keep a b => intro env m p k k' hk r h; exact evS_rest_leV hO hk h
  | block id b => intro env m p k k' hk r h; exact evS_rest_leV hO hk h
  | loop l keep => intro env m p k k' hk r h; exact evS_rest_leV hO hk h
  | exit id => intro env m p k k' hk r h; exact evS_rest_leV hO hk h
  | scope b => intro env m p k k' hk r h; exact evS_rest_leV hO hk h
theorem leaves_leV {O O' : Orc} (hO : Le O O') {fn : IFun} {env : Env} : ∀ {ds : List Dfr} {p : Option Value} {m : Mem} {r : Out}, leavesV O fn env ds p m = some r → leavesV O' fn env ds p m = some r := by
  intro ds
  induction ds with
  | nil => intro p m r h; cases p <;> exact h
  | cons df ds ih =>
    intro p m r h
    refine bind_le (fun _ h => hO _ _ _ _ _ h) (fun o r h => ?_) h
    split at h
    · exact ih h
    · cases h
theorem fin_leV {O O' : Orc} (hO : Le O O') (fn : IFun) : KLe (finV O fn) (finV O' fn) := by
  intro x e m d r h
  cases x with
  | normal => exact leaves_leV hO h
  | ret => exact leaves_leV hO h
  | panic v => exact leaves_leV hO h
  | exit id => cases h
theorem close_le {m : Mem} {x x' : Option Out} (hx : ∀ a, x = some a → x' = some a) {r : Out} (h : x.bind (close m) = some r) : x'.bind (close m) = some r := bind_le hx (fun _ _ h => h) h
theorem step1_leV {C : CodeV} {O O' : Orc} (hO : Le O O') : Le (step1V C O) (step1V C O') := by
  intro k a m d r h
  cases k with
  | call f =>
    simp only [step1V] at h ⊢
    split at h
    · exact h
    · refine bind_le (fun _ h => h) (fun fn r h => ?_) h
      split at h
      · rw [if_pos ‹_›]
        split at h
        · split at h
          · rw [if_pos ‹_›]; exact close_le (fun _ h => ev_leV hO (fin_leV hO fn) h) h
          · rw [if_neg ‹_›]; exact close_le (fun _ h => ev_leV hO (fin_leV hO fn) h) h
        · exact ev_leV hO (fin_leV hO fn) h
      · cases h
  | loop l =>
    refine bind_le (fun _ h => h) (fun p r h => ev_leV hO (fun x e m d r h => ?_) h) h
    cases x with
    | normal => exact hO _ _ _ _ _ h
    | _ => exact h
  | dcall f pan =>
    refine bind_le (fun _ h => h) (fun fn r h => ?_) h
    split at h
    · rw [if_pos ‹_›]; exact evS_leV hO (fun _ _ _ _ _ h => h) h
    · cases h
theorem E_leV (C : CodeV) (n : Nat) : Le (EV C n) (EV C (n + 1)) := by
  induction n with
  | zero => intro k a m d r h; cases h
  | succ n ih => exact step1_leV ih
theorem E_monoV (C : CodeV) {n j : Nat} (h : n ≤ j) : Le (EV C n) (EV C j) := by
  induction j with
  | zero =>
    obtain rfl : n = 0 := by omega
    exact fun _ _ _ _ _ h => h
  | succ j ih =>
    by_cases e : n = j + 1
    · subst e; exact fun _ _ _ _ _ h => h
    · exact fun k a m d r hr => E_leV C j k a m d r (ih (by omega) k a m d r hr)
open Classical in
/-- What a call, or a loop, comes to: with as many rounds as it takes. -/
noncomputable def LV (C : CodeV) : Orc := fun k a m d => if h : ∃ n out, EV C n k a m d = some out then some h.choose_spec.choose else none
theorem L_someV {C : CodeV} {k : Key} {a : List Value} {m : Mem} {d : List Dfr} {r : Out} : LV C k a m d = some r ↔ ∃ n, EV C n k a m d = some r := by
  unfold LV
  constructor
  · intro h
    split at h
    · rename_i hx
      cases h
      exact ⟨_, hx.choose_spec.choose_spec⟩
    · cases h
  · rintro ⟨n, hn⟩
    have hx : ∃ n out, EV C n k a m d = some out := ⟨n, r, hn⟩
    rw [dif_pos hx]
    have h2 := hx.choose_spec.choose_spec
    have e1 := E_monoV C (Nat.le_max_left n hx.choose) _ _ _ _ _ hn
    have e2 := E_monoV C (Nat.le_max_right n hx.choose) _ _ _ _ _ h2
    rw [e1] at e2
    exact e2.symm
section
variable {O : Orc} {On : Nat → Orc}
theorem evOp1_evV (hO : EvO O On) {op : IOp} {dst : Option Nat} {env : Env} {m : Mem} {d : List Dfr} {k : Kont} {kn : Nat → Kont} (hk : EvK k kn) {r : Out} (h : evOp1V O op dst env m d k = some r) : Ev (fun n => evOp1V (On n) op dst env m d (kn n)) r := by
  cases op with
  | plain p => exact Ev.bindc (fun v r h => hk _ _ _ _ r h) h
  | call f as => exact Ev.bind (fun _ h => hO _ _ _ _ _ h) (fun v r h => thenK_ev hk h) h
  | callV x as => exact Ev.bindc (fun c r h => Ev.bind (fun _ h => hO _ _ _ _ _ h) (fun v r h => thenK_ev hk h) h) h
  | dfr x as => exact Ev.bindc (fun v r h => hk _ _ _ _ r h) h
  | panic x =>
    cases hv : aev env x <;> simp only [evOp1V, hv] at h ⊢ <;> first
      | (split at h
         · cases h
         · simp only [if_neg ‹_›]; exact hk _ _ _ _ r h)
      | cases h
  | recover => cases h
theorem evOp_evV (hO : EvO O On) {o : IOper} {env : Env} {m : Mem} {d : List Dfr} {k : Kont} {kn : Nat → Kont} (hk : EvK k kn) {r : Out} (h : evOpV O o env m d k = some r) : Ev (fun n => evOpV (On n) o env m d (kn n)) r :=
  guarded_ev (fun _ h => evOp1_evV hO hk h) (fun _ h => hk _ _ _ _ _ h) h
theorem evOps_evV (hO : EvO O On) : ∀ {ops : List IOper} {env : Env} {m : Mem} {d : List Dfr} {k : Kont} {kn : Nat → Kont}, EvK k kn → ∀ {r : Out}, evOpsV O ops env m d k = some r → Ev (fun n => evOpsV (On n) ops env m d (kn n)) r := by
  intro ops
  induction ops with
  | nil => intro env m d k kn hk r h; exact hk _ _ _ _ r h
  | cons o t ih =>
    intro env m d k kn hk r h
    refine evOp_evV hO (fun x e m d r h => ?_) h
    cases x with
    | normal => exact ih hk h
    | _ => exact hk _ _ _ _ r h
theorem qOp1_evV (hO : EvO O On) {op : IOp} {env : Env} {m : Mem} {r : Value × Mem} (h : qOp1V O op env m = some r) : ∃ n, ∀ j, n ≤ j → qOp1V (On j) op env m = some r := by
  have key : ∀ (k : Key) (l : List Value) (m : Mem), ((O k l m []).bind fun o => match o.x with | .ret => (o.vals.head?).bind fun v => some (v, o.m) | _ => none) = some r → ∃ n, ∀ j, n ≤ j → ((On j k l m []).bind fun o => match o.x with | .ret => (o.vals.head?).bind fun v => some (v, o.m) | _ => none) = some r := by
    intro k l m h
    cases ho : O k l m [] with
    | none => rw [ho] at h; cases h
    | some o =>
      rw [ho] at h
      obtain ⟨n, hn⟩ := hO _ _ _ _ _ ho
      exact ⟨n, fun j hj => by have e := hn j hj; simp only at e; rw [e]; exact h⟩
  cases op with
  | plain p => exact ⟨0, fun _ _ => h⟩
  | call f as => exact key _ _ _ h
  | callV x as =>
    simp only [qOp1V] at h ⊢
    cases hf : fn? (aev env x) with
    | none => rw [hf] at h; cases h
    | some c => rw [hf] at h; exact key _ _ _ h
  | _ => cases h
theorem qRun_evV (hO : EvO O On) {o : IOper} {q : QK} {env : Env} {m : Mem} {r : Value × Mem} (h : qRunV O o q env m = some r) : ∃ n, ∀ j, n ≤ j → qRunV (On j) o q env m = some r := by
  cases q with
  | pure => exact qOp1_evV hO h
  | lone => exact qOp1_evV hO h
  | peek => exact qOp1_evV hO h
  | quiet =>
    simp only [qRunV] at h ⊢
    cases hq : qOp1V O o.op env (m.floor m.next) with
    | none => rw [hq] at h; cases h
    | some p =>
      rw [hq] at h
      obtain ⟨n, hn⟩ := qOp1_evV hO hq
      exact ⟨n, fun j hj => by rw [hn j hj]; exact h⟩
theorem qOps_evV (hO : EvO O On) {n0 : Nat} : ∀ {ops : List (IOper × List Nat × QK)} {env : Env} {m : Mem} {k : Env → Mem → Option Out} {kn : Nat → Env → Mem → Option Out} {kp : Value → Mem → Option Out} {kpn : Nat → Value → Mem → Option Out}, (∀ e m r, k e m = some r → Ev (fun n => kn n e m) r) → (∀ v m r, kp v m = some r → Ev (fun n => kpn n v m) r) → ∀ {r : Out}, qOpsV O n0 ops env m k kp = some r → Ev (fun n => qOpsV (On n) n0 ops env m (kn n) (kpn n)) r := by
  intro ops
  induction ops with
  | nil => intro env m k kn kp kpn hk hp r h; exact hk _ _ r h
  | cons o t ih =>
    intro env m k kn kp kpn hk hp r h
    refine guarded_ev (fun r h => ?_) (fun _ h => ih hk hp h) h
    unfold qDoV at h ⊢
    cases hq : o.2.2 with
    | lone pan chk =>
      rw [hq] at h
      simp only at h ⊢
      cases hq1 : qOp1V O o.1.op (mask o.2.1 env) m with
      | some p =>
        rw [hq1] at h
        simp only at h
        obtain ⟨n1, h1⟩ := qOp1_evV hO hq1
        split at h
        · obtain ⟨n2, h2⟩ := ih hk hp h
          exact ⟨max n1 n2, fun j hj => by simp only [h1 j (by omega)]; rw [if_pos ‹_›]; exact h2 j (by omega)⟩
        · cases h
      | none =>
        rw [hq1] at h
        simp only at h
        split at h
        · cases hq2 : qPan1 O o.1.op (mask o.2.1 env) m with
          | none => rw [hq2] at h; cases h
          | some p =>
            rw [hq2] at h
            obtain ⟨n1, h1⟩ := qPan1_ev hO hq2
            obtain ⟨n2, h2⟩ := hp _ _ _ h
            exact ⟨max n1 n2, fun j hj => by simp only [qPan1_noneV (h1 j (by omega)), h1 j (by omega)]; rw [if_pos ‹_›]; exact h2 j (by omega)⟩
        · cases h
    | _ =>
      rw [hq] at h
      simp only at h ⊢
      cases hq1 : qRunV O o.1 _ (mask o.2.1 env) m with
      | none => rw [hq1] at h; cases h
      | some p =>
        rw [hq1] at h
        obtain ⟨n1, h1⟩ := qRun_evV hO hq1
        obtain ⟨n2, h2⟩ := ih hk hp h
        exact ⟨max n1 n2, fun j hj => by simp only [h1 j (by omega), Option.bind_some]; exact h2 j (by omega)⟩
theorem ev_evV (hO : EvO O On) : ∀ {c : IC} {env : Env} {m : Mem} {d : List Dfr} {k : Kont} {kn : Nat → Kont}, EvK k kn → ∀ {r : Out}, evV O c env m d k = some r → Ev (fun n => evV (On n) c env m d (kn n)) r := by
  intro c
  induction c with
  | skip => intro env m d k kn hk r h; exact hk _ _ _ _ r h
  | region ops => intro env m d k kn hk r h; exact evOps_evV hO hk h
  | draws ops => intro env m d k kn hk r h; exact qOps_evV hO (fun e m r h => hk _ _ _ _ r h) (fun v m r h => hk _ _ _ _ r h) h
  | seq a b iha ihb =>
    intro env m d k kn hk r h
    refine iha (fun x e m d r h => ?_) h
    cases x with
    | normal => exact ihb hk h
    | _ => exact hk _ _ _ _ r h
  | cut keep a b iha ihb =>
    intro env m d k kn hk r h
    refine Ev.bind (fun o h => iha (kn := fun _ x env m d => some ⟨x, keep.map env, m, d⟩) (fun x e m d r h => Ev.const h) h) (fun o r h => ?_) h
    cases hx : o.x <;> simp only [hx] at h ⊢ <;> first
      | exact ihb hk h
      | exact hk _ _ _ _ r h
  | cond c t e iht ihe =>
    intro env m d k kn hk r h
    refine Ev.bindc (fun b r h => ?_) h
    cases b with
    | true => exact iht hk h
    | false => exact ihe hk h
  | block id b ih =>
    intro env m d k kn hk r h
    refine ih (fun x e m d r h => ?_) h
    cases x with
    | exit j =>
      simp only at h ⊢
      split at h
      · simp only [if_pos ‹j = id›]; exact hk _ _ _ _ r h
      · simp only [if_neg ‹¬ j = id›]; exact hk _ _ _ _ r h
    | _ => exact hk _ _ _ _ r h
  | loop l keep =>
    intro env m d k kn hk r h
    refine Ev.bind (fun _ h => hO _ _ _ _ _ h) (fun o r h => ?_) h
    cases hx : o.x <;> simp only [hx] at h ⊢ <;> first
      | exact hk _ _ _ _ r h
      | cases h
  | exit id => intro env m d k kn hk r h; exact hk _ _ _ _ r h
  | ret => intro env m d k kn hk r h; exact hk _ _ _ _ r h
  | scope b ih => intro env m d k kn hk r h; exact ih hk h
theorem evOpsS_evV (hO : EvO O On) : ∀ {ops : List IOper} {env : Env} {m : Mem} {p : Option Value} {k : KontS} {kn : Nat → KontS}, EvKS k kn → ∀ {r : Out}, evOpsSV O ops env m p k = some r → Ev (fun n => evOpsSV (On n) ops env m p (kn n)) r := by
  intro ops
  induction ops with
  | nil => intro env m p k kn hk r h; exact hk _ _ _ _ r h
  | cons o t ih =>
    intro env m p k kn hk r h
    unfold evOpsSV at h ⊢
    cases hr : recov? o <;> simp only [hr] at h ⊢
    rotate_left
    · exact ih hk h
    · refine evOp_evV hO (fun x e m d r h => ?_) h
      cases x with
      | normal =>
        cases d with
        | nil => exact ih hk h
        | cons _ _ => cases h
      | _ => cases h
theorem evS_rest_evV (hO : EvO O On) {c : IC} {env : Env} {m : Mem} {p : Option Value} {k : KontS} {kn : Nat → KontS} (hk : EvKS k kn) {r : Out}
    (h : (evV O c env m [] fun x env m d => match x, d with | .normal, [] => k .normal env m p | .ret, [] => k .ret env m p | _, _ => none) = some r) :
    Ev (fun n => evV (On n) c env m [] fun x env m d => match x, d with | .normal, [] => kn n .normal env m p | .ret, [] => kn n .ret env m p | _, _ => none) r := by
  refine ev_evV hO (fun x e m d r h => ?_) h
  cases x <;> cases d <;> first
    | exact hk _ _ _ _ r h
    | cases h
theorem evS_evV (hO : EvO O On) : ∀ {c : IC} {env : Env} {m : Mem} {p : Option Value} {k : KontS} {kn : Nat → KontS}, EvKS k kn → ∀ {r : Out}, evSV O c env m p k = some r → Ev (fun n => evSV (On n) c env m p (kn n)) r := by
  intro c
  induction c with
  | skip => intro env m p k kn hk r h; exact hk _ _ _ _ r h
  | region ops => intro env m p k kn hk r h; exact evOpsS_evV hO hk h
  | seq a b iha ihb =>
    intro env m p k kn hk r h
    refine iha (fun x e m p r h => ?_) h
    cases x with
    | normal => exact ihb hk h
    | _ => exact hk _ _ _ _ r h
  | cond c t e iht ihe =>
    intro env m p k kn hk r h
    refine Ev.bindc (fun b r h => ?_) h
    cases b with
    | true => exact iht hk h
    | false => exact ihe hk h
  | ret => intro env m p k kn hk r h; exact hk _ _ _ _ r h
  | draws ops => intro env m p k kn hk r h; exact evS_rest_evV hO hk h
  | cut keep a b => intro env m p k kn hk r h; exact evS_rest_evV hO hk h
  | block id b => intro env m p k kn hk r h; exact evS_rest_evV hO hk h
  | loop l keep => intro env m p k kn hk r h; exact evS_rest_evV hO hk h
  | exit id => intro env m p k kn hk r h; exact evS_rest_evV hO hk h
  | scope b => intro env m p k kn hk r h; exact evS_rest_evV hO hk h
theorem leaves_evV (hO : EvO O On) {fn : IFun} {env : Env} : ∀ {ds : List Dfr} {p : Option Value} {m : Mem} {r : Out}, leavesV O fn env ds p m = some r → Ev (fun n => leavesV (On n) fn env ds p m) r := by
  intro ds
  induction ds with
  | nil => intro p m r h; cases p <;> exact Ev.const h
  | cons df ds ih =>
    intro p m r h
    refine Ev.bind (fun _ h => hO _ _ _ _ _ h) (fun o r h => ?_) h
    obtain ⟨x, vals, m', d'⟩ := o
    cases x <;> first
      | (cases h; done)
      | skip
    rcases vals with _ | ⟨v, _ | ⟨v2, t⟩⟩
    · cases h
    · cases v <;> first
        | exact ih h
        | cases h
    · cases v <;> cases h
theorem fin_evV (hO : EvO O On) (fn : IFun) : EvK (finV O fn) (fun n => finV (On n) fn) := by
  intro x e m d r h
  cases x with
  | normal => exact leaves_evV hO h
  | ret => exact leaves_evV hO h
  | panic v => exact leaves_evV hO h
  | exit id => cases h
theorem step1_evV {C : CodeV} (hO : EvO O On) : EvO (step1V C O) (fun n => step1V C (On n)) := by
  intro k a m d r h
  cases k with
  | call f =>
    show Ev (fun n => step1V C (On n) (.call f) a m d) r
    cases hg : C.gv f with
    | some g => simp only [step1V, hg] at h ⊢; exact Ev.const h
    | none =>
      simp only [step1V, hg] at h ⊢
      refine Ev.bindc (fun fn r h => ?_) h
      by_cases hl : a.length ≤ fn.n
      · simp only [if_pos hl] at h ⊢
        cases hp : C.pu f with
        | true =>
          simp only [hp] at h ⊢
          by_cases hcl : a.all (clo FUEL) = true
          · simp only [if_pos hcl] at h ⊢; exact Ev.bind (fun _ h => ev_evV hO (fin_evV hO fn) h) (fun _ _ h => Ev.const h) h
          · simp only [if_neg hcl] at h ⊢; exact Ev.bind (fun _ h => ev_evV hO (fin_evV hO fn) h) (fun _ _ h => Ev.const h) h
        | false => simp only [hp] at h ⊢; exact ev_evV hO (fin_evV hO fn) h
      · rw [if_neg hl] at h; cases h
  | loop l =>
    refine Ev.bindc (fun p r h => ev_evV hO (fun x e m d r h => ?_) h) h
    cases x with
    | normal => exact hO _ _ _ _ _ h
    | _ => exact Ev.const h
  | dcall f pan =>
    refine Ev.bindc (fun fn r h => ?_) h
    split at h
    · simp only [if_pos ‹a.length ≤ fn.n›]; exact evS_evV hO (kn := fun _ => finSV fn pan) (fun _ _ _ _ _ h => Ev.const h) h
    · cases h
end
theorem L_evV (C : CodeV) : EvO (LV C) (EV C) := by
  intro k a m d r h
  obtain ⟨n, hn⟩ := L_someV.1 h
  exact ⟨n, fun j hj => E_monoV C hj _ _ _ _ _ hn⟩
theorem E_le_LV (C : CodeV) (n : Nat) : Le (EV C n) (LV C) := fun k a m d r h => L_someV.2 ⟨n, h⟩
/-- The reading, as an equation. -/
theorem L_eqV (C : CodeV) (k : Key) (a : List Value) (m : Mem) (d : List Dfr) : LV C k a m d = step1V C (LV C) k a m d := by
  apply Option.ext
  intro r
  constructor
  · intro h
    obtain ⟨n, hn⟩ := L_someV.1 h
    cases n with
    | zero => cases hn
    | succ n => exact step1_leV (E_le_LV C n) k a m d r hn
  · intro h
    obtain ⟨n, hn⟩ := step1_evV (L_evV C) k a m d r h
    exact L_someV.2 ⟨n + 1, hn n (Nat.le_refl _)⟩
theorem L_loopV {C : CodeV} {l : Nat} {keep : List Nat} {b : IC} (hl : C.lps l = some (keep, b)) (vals : List Value) (m : Mem) (d : List Dfr) : LV C (.loop l) vals m d = evV (LV C) b (unpack keep vals) m d (again (LV C) l keep) := by
  rw [L_eqV]
  simp only [step1V, hl, Option.bind_some]
theorem L_callV {C : CodeV} {f : FuncId} {fn : IFun} (hg : C.gv f = none) (hp : C.pu f = false) (hf : C.irs f = some fn) (a : List Value) (m : Mem) (d : List Dfr) (hn : a.length ≤ fn.n) : LV C (.call f) a m d = evV (LV C) fn.body (envOf a) m [] (finV (LV C) fn) := by
  rw [L_eqV]
  simp only [step1V, hg, hf, hp, Option.bind_some, if_pos hn]
theorem L_callP {C : CodeV} {f : FuncId} {fn : IFun} (hg : C.gv f = none) (hp : C.pu f = true) (hf : C.irs f = some fn) (a : List Value) (m : Mem) (d : List Dfr) (hn : a.length ≤ fn.n) (hc : a.all (clo FUEL) = true) : LV C (.call f) a m d = (evV (LV C) fn.body (envOf a) ⟨[], m.next, m.next, 0⟩ [] (finV (LV C) fn)).bind (close m) := by
  rw [L_eqV]
  simp only [step1V, hg, hf, hp, Option.bind_some, if_pos hn, if_pos hc]
/-- With what is live fixed at the call. -/
theorem L_callQ {C : CodeV} {f : FuncId} {fn : IFun} (hg : C.gv f = none) (hp : C.pu f = true) (hf : C.irs f = some fn) (a : List Value) (m : Mem) (d : List Dfr) (hn : a.length ≤ fn.n) (hc : a.all (clo FUEL) = false) : LV C (.call f) a m d = (evV (LV C) fn.body (envOf (a.map (frz FUEL 0 m))) ⟨[], m.next, m.next, 0⟩ [] (finV (LV C) fn)).bind (close ⟨[], m.next, m.lo, m.ro⟩) := by
  rw [L_eqV]
  simp only [step1V, hg, hf, hp, Option.bind_some, if_pos hn]
  rw [if_neg (by rw [hc]; simp)]
theorem L_givenV {C : CodeV} {f : FuncId} {g : List Value → Option Value} (hg : C.gv f = some g) (a : List Value) (m : Mem) (d : List Dfr) : LV C (.call f) a m d = (g a).bind fun v => some ⟨.ret, [v], m, []⟩ := by
  rw [L_eqV]
  simp only [step1V, hg]
/-! ### The printed form -/
def vopK (p : POp) (ρ : Operand → Value) (m : Mem) (k : KV) : Option Out :=
  match p with
  | .load n g a => (vLd n g (ρ a) m).bind fun v => k v m
  | .lit sz n z parts => (vLit sz n z (parts.map fun p => (p.1, ρ p.2)) m).bind fun r => k r.1 r.2
  | .nilCheck x => (vCheck (ρ x)).bind fun v => k v m
  | .isNil kk neg x => (vIsNil kk neg (ρ x)).bind fun v => k v m
  | .toStr x => (vStr (ρ x) m).bind fun v => k v m
  | .iface t x => (vIface t (ρ x)).bind fun v => k v m
  | .cut sz x lo hi => (vCut sz (ρ x) (lo.map ρ) (hi.map ρ) m).bind fun v => k v m
  | .cut3 sz x lo hi mx => (vCut3 sz (ρ x) (lo.map ρ) (hi.map ρ) (mx.map ρ) m).bind fun v => k v m
  | .fieldAddr off x => (vFieldAddr off (ρ x)).bind fun v => k v m
  | .idx sz x i => (vIdx sz (ρ x) (ρ i)).bind fun v => k v m
  | .idxArr n sz x i => (vIdxArr n sz (ρ x) (ρ i)).bind fun v => k v m
  | .assert t ok z x => (vAssert t ok z (ρ x)).bind fun v => k v m
  | .len s x => (match s with | true => aLenS (ρ x) | false => vLenL (ρ x)).bind fun v => k v m
  | .app s sz b x y => (vApp s sz b (ρ x) (ρ y) m).bind fun r => k r.1 r.2
  | p => aopK p ρ m k
theorem vopK_eq (p : POp) (ρ : Operand → Value) (m : Mem) (k : KV) : vopK p ρ m k = (vop p ρ m).bind fun r => k r.1 r.2 := by
  cases p <;> first
    | (simp only [vop, vopK, only_bind]; done)
    | (simp only [vop, vopK]; exact aopK_eq _ ρ m k)
    | rfl
    | skip
  rename_i s x
  cases s <;> simp only [vop, vopK, only_bind]
theorem ins_floorV {p : POp} (h : isIns p = true) (ρ : Operand → Value) (m : Mem) (n : Nat) : ((vop p ρ (m.floor n)).map fun r => (r.1, r.2.floor m.lo)) = vop p ρ m := by
  have ho : ∀ x : Option Value, ((only (m.floor n) x).map fun r => (r.1, r.2.floor m.lo)) = only m x := fun x => by cases x <;> rfl
  cases p <;> first
    | (simp [isIns] at h; done)
    | exact ho _
    | exact ins_floor h ρ m n
    | skip
  simp only [vop, vLit]
  split
  · cases fillL _ _ _ with
    | none => rfl
    | some l =>
      simp only [Option.bind_some]
      split <;> rfl
  · rfl
def panV (x : Value) (k : Value → Option Out) : Option Out := match x with | .iface t v => if tagged t = true then none else k (.iface t v) | _ => none
def rvOp1V (O : Orc) (op : IOp) (dst : Option Nat) (env : Env) (m : Mem) (d : List Dfr) (k : Kont) : Option Out :=
  match op with
  | .plain p => vopK p (aev env) m fun v m => k .normal (put env dst v) m d
  | .call f as => retK (O (.call f) (as.map (aev env)) m []) (fun v m => k .normal (put env dst v) m d) fun v m => k (.panic v) env m d
  | .callV x as => (fn? (aev env x)).bind fun c => retK (O (.call c.1) (c.2.1 ++ as.map (aev env) ++ c.2.2) m []) (fun v m => k .normal (put env dst v) m d) fun v m => k (.panic v) env m d
  | .panic x => panV (aev env x) fun v => k (.panic v) env m d
  | op => evOp1V O op dst env m d k
theorem rvOp1_eqV (O : Orc) (op : IOp) (dst : Option Nat) (env : Env) (m : Mem) (d : List Dfr) (k : Kont) : rvOp1V O op dst env m d k = evOp1V O op dst env m d k := by
  cases op with
  | plain p => exact vopK_eq p (aev env) m fun v m => k .normal (put env dst v) m d
  | call f as => exact (thenK_bind _ _ _ _ _).symm
  | callV x as =>
    simp only [rvOp1V, evOp1V]
    cases fn? (aev env x) with
    | none => rfl
    | some c => exact (thenK_bind _ _ _ _ _).symm
  | panic x =>
    simp only [rvOp1V, evOp1V, panV]
    cases aev env x <;> rfl
  | _ => rfl
def rvOpsV (O : Orc) : List IOper → Env → Mem → List Dfr → Kont → Option Out
  | [], env, m, d, k => k .normal env m d
  | ⟨dst, op, g⟩ :: t, env, m, d, k => rgd g env (fun env => rvOp1V O op dst env m d fun x env m d => match x with | .normal => rvOpsV O t env m d k | x => k x env m d) fun env => rvOpsV O t (put env dst gone) m d k
theorem rvOps_eqV (O : Orc) : ∀ (ops : List IOper) (env : Env) (m : Mem) (d : List Dfr) (k : Kont), rvOpsV O ops env m d k = evOpsV O ops env m d k := by
  intro ops
  induction ops with
  | nil => intro env m d k; rfl
  | cons o t ih =>
    intro env m d k
    have hk : ∀ (op : IOp) (dst : Option Nat) (env : Env) (m : Mem) (d : List Dfr), evOp1V O op dst env m d (fun x env m d => match x with | Ex.normal => rvOpsV O t env m d k | x => k x env m d) = evOp1V O op dst env m d (fun x env m d => match x with | Ex.normal => evOpsV O t env m d k | x => k x env m d) := by
      intro op dst env m d
      refine congrArg _ (funext fun x => funext fun e => funext fun m => funext fun d => ?_)
      cases x <;> first | exact ih _ _ _ _ | rfl
    obtain ⟨dst, op, g⟩ := o
    simp only [rvOpsV, evOpsV, evOpV, rgd_eq, rvOp1_eqV, ih]
    congr 1
/-- Where the order is open. -/
def rqOp1V (O : Orc) (op : IOp) (q : QK) (ρ : Operand → Value) (m : Mem) (k : KV) (kp : Value → Mem → Option Out) : Option Out :=
  match op with
  | .plain p => if isIns p = true then vopK p ρ m k else (match q with | .quiet => vopK p ρ (m.floor m.next) fun v m' => k v (m'.floor m.lo) | _ => vopK p ρ m k)
  | .call f as => (match q with | .quiet => retK (O (.call f) (as.map ρ) (m.floor m.next) []) (fun v m' => k v (m'.floor m.lo)) (fun _ _ => none) | .lone true _ => retK (O (.call f) (as.map ρ) m []) k kp | _ => retK (O (.call f) (as.map ρ) m []) k fun _ _ => none)
  | .callV x as => (fn? (ρ x)).bind fun c => (match q with | .quiet => retK (O (.call c.1) (c.2.1 ++ as.map ρ ++ c.2.2) (m.floor m.next) []) (fun v m' => k v (m'.floor m.lo)) (fun _ _ => none) | .lone true _ => retK (O (.call c.1) (c.2.1 ++ as.map ρ ++ c.2.2) m []) k kp | _ => retK (O (.call c.1) (c.2.1 ++ as.map ρ ++ c.2.2) m []) k fun _ _ => none)
  | _ => none
def qGoV (O : Orc) (o : IOper) (rs : List Nat) (q : QK) (env : Env) (m : Mem) (k : KV) (kp : Value → Mem → Option Out) : Option Out :=
  match q with
  | .lone pan _ => (match qOp1V O o.op (mask rs env) m with
    | some r => k r.1 r.2
    | none => if pan = true then (qPan1 O o.op (mask rs env) m).bind fun r => kp r.1 r.2 else none)
  | q => (qRunV O o q (mask rs env) m).bind fun r => k r.1 r.2
theorem rqOp1_eqV (O : Orc) (o : IOper) (q : QK) (rs : List Nat) (env : Env) (m : Mem) (k : KV) (kp : Value → Mem → Option Out) : rqOp1V O o.op q (aev (mask rs env)) m k kp = qGoV O o rs q env m k kp := by
  obtain ⟨dst, op, g⟩ := o
  have hn : ∀ (x : Option (Value × Mem)) (pan : Bool), (x.bind fun r => k r.1 r.2) = (match x with | some r => k r.1 r.2 | none => if pan = true then ((none : Option (Value × Mem)).bind fun r => kp r.1 r.2) else none) := fun x pan => by cases x <;> cases pan <;> rfl
  cases op with
  | plain p =>
    simp only [rqOp1V, qGoV, qRunV, qOp1V, qPan1]
    by_cases hi : isIns p = true
    · rw [if_pos hi, vopK_eq]
      cases q with
      | quiet => simp only []; rw [ins_floorV hi]
      | lone pan l => exact hn _ _
      | _ => rfl
    · rw [if_neg hi]
      cases q with
      | quiet =>
        simp only [vopK_eq]
        cases vop p (aev (mask rs env)) (m.floor m.next) <;> rfl
      | lone pan l => simp only [vopK_eq]; exact hn _ _
      | _ => simp only [vopK_eq]
  | call f as =>
    cases q with
    | quiet => exact (ret_map (O (.call f) (as.map (aev (mask rs env))) (m.floor m.next) []) (fun r => (r.1, r.2.floor m.lo)) k).symm
    | lone pan l =>
      cases pan with
      | true => exact (pan_bind _ _ _).symm
      | false =>
        simp only [rqOp1V, qGoV, qOp1V]
        rw [← ret_bind, hn _ false]; rfl
    | _ => exact (ret_bind _ _).symm
  | callV x as =>
    simp only [rqOp1V, qGoV, qRunV, qOp1V, qPan1]
    cases hf : fn? (aev (mask rs env) x) with
    | none => cases q <;> first | rfl | (rename_i pan l; cases pan <;> rfl)
    | some c =>
      simp only [Option.bind_some]
      cases q with
      | quiet => exact (ret_map (O (.call c.1) (c.2.1 ++ as.map (aev (mask rs env)) ++ c.2.2) (m.floor m.next) []) (fun r => (r.1, r.2.floor m.lo)) k).symm
      | lone pan l =>
        cases pan with
        | true => exact (pan_bind _ _ _).symm
        | false =>
          simp only
          rw [← ret_bind, hn _ false]; rfl
      | _ => exact (ret_bind _ _).symm
  | _ => cases q <;> first | rfl | (rename_i pan l; cases pan <;> rfl)
def rqChkV (n0 : Nat) : List (IOper × List Nat) → Env → Mem → Option Out → Option Out
  | [], env, m, k => k
  | (⟨dst, .plain (.load n g a), _⟩, rs) :: t, env, m, k => peekK n0 (vLd n g (aev (mask rs env) a) m) (env (dst.getD 0)) (rqChkV n0 t env m k)
  | _ :: _, _, _, _ => none
theorem peek_if (n0 : Nat) (x : Option Value) (v : Value) (k : Option Out) : peekK n0 x v k = if chk1V n0 x v = true then k else none := by
  cases x with
  | none => rfl
  | some u => rfl
theorem rqChk_eqV (n0 : Nat) : ∀ (l : List (IOper × List Nat)) (env : Env) (m : Mem) (k : Option Out), rqChkV n0 l env m k = if chksV n0 l env m = true then k else none := by
  intro l
  induction l with
  | nil => intro env m k; rfl
  | cons c t ih =>
    intro env m k
    obtain ⟨⟨dst, op, g⟩, rs⟩ := c
    have hc : chksV n0 ((⟨dst, op, g⟩, rs) :: t) env m = ((match op with | .plain (.load n g a) => chk1V n0 (vLd n g (aev (mask rs env) a) m) (env (dst.getD 0)) | _ => false) && chksV n0 t env m) := rfl
    rw [hc]
    cases op with
    | plain p =>
      cases p with
      | load n g a =>
        simp only [rqChkV, peek_if, ih]
        by_cases h1 : chk1V n0 (vLd n g (aev (mask rs env) a) m) (env (dst.getD 0)) = true
        · by_cases h2 : chksV n0 t env m = true
          · simp [h1, h2]
          · simp [h1, h2]
        · simp [h1]
      | _ => simp [rqChkV]
    | _ => simp [rqChkV]
def rqOpsV (O : Orc) (n0 : Nat) : List (IOper × List Nat × QK) → Env → Mem → (Env → Mem → Option Out) → (Value → Mem → Option Out) → Option Out
  | [], env, m, k, _ => k env m
  | (⟨dst, op, g⟩, rs, q) :: t, env, m, k, kp => rqg g rs env (fun env => rqOp1V O op q (aev (mask rs env)) m (fun v m => rqChkV n0 (chkOf q) (put env dst v) m (rqOpsV O n0 t (put env dst v) m k kp)) kp) fun env => rqOpsV O n0 t (put env dst gone) m k kp
theorem rqOps_eqV (O : Orc) (n0 : Nat) : ∀ (ops : List (IOper × List Nat × QK)) (env : Env) (m : Mem) (k : Env → Mem → Option Out) (kp : Value → Mem → Option Out), rqOpsV O n0 ops env m k kp = qOpsV O n0 ops env m k kp := by
  intro ops
  induction ops with
  | nil => intro env m k kp; rfl
  | cons o t ih =>
    intro env m k kp
    obtain ⟨⟨dst, op, g⟩, rs, q⟩ := o
    simp only [rqOpsV, qOpsV, qOpV, rqg_eq, ih]
    congr 1
    rw [rqOp1_eqV O ⟨dst, op, g⟩]
    simp only [rqChk_eqV]
    cases q <;> rfl
def rvV (O : Orc) : IC → Env → Mem → List Dfr → Kont → Option Out
  | .skip, env, m, d, k => k .normal env m d
  | .region ops, env, m, d, k => rvOpsV O ops env m d k
  | .draws ops, env, m, d, k => rqOpsV O m.next ops env m (fun env m => k .normal env m d) fun v m => k (.panic v) (wipe ops env) m d
  | .seq a b, env, m, d, k => rvV O a env m d fun x env m d => match x with | .normal => rvV O b env m d k | x => k x env m d
  | .cut keep a b, env, m, d, k => cutD d (rvV O a env m d fun x env m d => some ⟨x, keep.map env, m, d⟩) (fun vs m d => rvV O b (unpack keep vs) m d k) (fun id vs m d => k (.exit id) (unpack keep vs) m d) (fun vs m d => k .ret (unpack keep vs) m d) fun v vs m d => k (.panic v) (unpack keep vs) m d
  | .cond c t e, env, m, d, k => br (aev env c) (rvV O t env m d k) (rvV O e env m d k)
  | .block id b, env, m, d, k => rvV O b env m d fun x env m d => match x with | .exit j => if j = id then k .normal env m d else k (.exit j) env m d | x => k x env m d
  | .loop l keep, env, m, d, k => lpD d (O (.loop l) (keep.map env) m d) (fun id vs m d => k (.exit id) (unpack keep vs) m d) (fun vs m d => k .ret (unpack keep vs) m d) fun v vs m d => k (.panic v) (unpack keep vs) m d
  | .exit id, env, m, d, k => k (.exit id) env m d
  | .ret, env, m, d, k => k .ret env m d
  | .scope b, env, m, d, k => rvV O b env m d k
theorem rv_leV (O : Orc) : ∀ (c : IC) {env : Env} {m : Mem} {d : List Dfr} {k k' : Kont}, KLe k k' → ∀ {r : Out}, rvV O c env m d k = some r → evV O c env m d k' = some r := by
  intro c
  induction c with
  | skip => intro env m d k k' hk r h; exact hk _ _ _ _ r h
  | region ops => intro env m d k k' hk r h; exact evOps_leV (Le.rfl' O) hk ((rvOps_eqV O ops env m d k).symm.trans h)
  | draws ops => intro env m d k k' hk r h; exact qOps_leV (Le.rfl' O) (fun e m r h => hk _ _ _ _ r h) (fun v m r h => hk _ _ _ _ r h) ((rqOps_eqV O m.next ops env m _ _).symm.trans h)
  | seq a b iha ihb =>
    intro env m d k k' hk r h
    refine iha (fun x e m d r h => ?_) h
    cases x with
    | normal => exact ihb hk h
    | _ => exact hk _ _ _ _ r h
  | cut keep a b iha ihb =>
    intro env m d k k' hk r h
    refine bind_le (fun o h => iha (fun _ _ _ _ _ h => h) h) (fun o r h => ?_) (cutD_le h)
    obtain ⟨x, vals, m, d⟩ := o
    cases x with
    | normal => exact ihb hk h
    | _ => exact hk _ _ _ _ r h
  | cond c t e iht ihe =>
    intro env m d k k' hk r h
    refine bind_le (fun _ h => h) (fun b r h => ?_) h
    cases b with
    | true => exact iht hk h
    | false => exact ihe hk h
  | block id b ih =>
    intro env m d k k' hk r h
    refine ih (fun x e m d r h => ?_) h
    cases x with
    | exit j =>
      simp only at h ⊢
      split at h
      · rw [if_pos ‹_›]; exact hk _ _ _ _ r h
      · rw [if_neg ‹_›]; exact hk _ _ _ _ r h
    | _ => exact hk _ _ _ _ r h
  | loop l keep =>
    intro env m d k k' hk r h
    refine bind_le (fun _ h => h) (fun o r h => ?_) (lpD_le h)
    obtain ⟨x, vals, m, d⟩ := o
    cases x with
    | normal => cases h
    | _ => exact hk _ _ _ _ r h
  | exit id => intro env m d k k' hk r h; exact hk _ _ _ _ r h
  | ret => intro env m d k k' hk r h; exact hk _ _ _ _ r h
  | scope b ih => intro env m d k k' hk r h; exact ih hk h
theorem R_loopV {C : CodeV} {l : Nat} {keep : List Nat} {b : IC} (hl : C.lps l = some (keep, b)) {vals : List Value} {m : Mem} {d : List Dfr} {x : Option Out} (h : rvV (LV C) b (unpack keep vals) m d (again (LV C) l keep) = x) {r : Out} (hx : x = some r) : LV C (.loop l) vals m d = some r := by
  rw [L_loopV hl vals m d]
  exact rv_leV (LV C) b (fun _ _ _ _ _ h => h) (h.trans hx)
theorem R_callV {C : CodeV} {f : FuncId} {fn : IFun} (hg : C.gv f = none) (hp : C.pu f = false) (hf : C.irs f = some fn) {a : List Value} {m : Mem} (hn : a.length ≤ fn.n) {x : Option Out} (h : rvV (LV C) fn.body (envOf a) m [] (finV (LV C) fn) = x) {r : Out} (hx : x = some r) : LV C (.call f) a m [] = some r := by
  rw [L_callV hg hp hf a m [] hn]
  exact rv_leV (LV C) fn.body (fun _ _ _ _ _ h => h) (h.trans hx)
theorem R_callP {C : CodeV} {f : FuncId} {fn : IFun} (hg : C.gv f = none) (hp : C.pu f = true) (hf : C.irs f = some fn) {a : List Value} {m : Mem} (hn : a.length ≤ fn.n) (hc : a.all (clo FUEL) = true) {x : Option Out} (h : rvV (LV C) fn.body (envOf a) ⟨[], m.next, m.next, 0⟩ [] (finV (LV C) fn) = x) {r : Out} (hx : x.bind (close m) = some r) : LV C (.call f) a m [] = some r := by
  rw [L_callP hg hp hf a m [] hn hc]
  exact close_le (fun _ e => rv_leV (LV C) fn.body (fun _ _ _ _ _ h => h) (h.trans e)) hx
theorem LV_sim {C : CodeV} {D : Code?} (hC : CR C D) : OSim (LV C) (L D) := by
  intro ι Φ k a m d dk da dm dd r hm hk ha hd h
  obtain ⟨n, hn⟩ := L_someV.1 h
  obtain ⟨dr, ι', Φ', e1, e2⟩ := EV_sim hC n ι Φ k a m d dk da dm dd r hm hk ha hd hn
  exact ⟨dr, ι', Φ', L_some.2 ⟨n, e1⟩, e2⟩
end Go.Proofs.Ytjojfpmelhaknaa.D
