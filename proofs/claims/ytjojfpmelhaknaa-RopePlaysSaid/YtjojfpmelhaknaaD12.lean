/-
  A deterministic reading of the program's code: whole functions, by rounds.
-/
import Derived.Test.YtjojfpmelhaknaaD11
namespace Go.Proofs.Ytjojfpmelhaknaa.D
open Go.RowKit
set_option linter.unusedVariables false
set_option linter.unusedSimpArgs false

inductive IOp where
  | plain (p : POp)
  | call (f : FuncId) (as : List Operand)
  | callV (x : Operand) (as : List Operand)
  | dfr (x : Operand) (as : List Operand)
  | panic (x : Operand)
  | recover
structure IOper where
  dst : Option Nat
  op : IOp
  guard : List (Nat × Bool)
/-- How an operation stands where the order is open: it touches no memory; it leaves what was there; it only reads, and what it read is looked at again; it must be ahead of, or behind, all that touches memory, but for what only reads (may it panic? what is looked at again behind it?). -/
inductive QK where
  | pure | quiet | peek | lone (pan : Bool) (chk : List (IOper × List Nat))
def isLone : QK → Bool | .lone .. => true | _ => false
inductive IC where
  | skip
  | region (ops : List IOper)
  | draws (ops : List (IOper × List Nat × QK))
  | seq (a b : IC)
  | cut (keep : List Nat) (a b : IC)
  | cond (c : Operand) (t e : IC)
  | block (id : Nat) (b : IC)
  | loop (l : Nat) (keep : List Nat)
  | exit (id : Nat)
  | ret
  | scope (b : IC)
/-- Where the model ends the run. -/
def stopIC : IC := .cond (.const (.int .i64 0)) .skip .skip
inductive IRes where
  | tmp (t : Nat)
  | cell (t n : Nat) (agg : Bool)
structure IFun where
  n : Nat
  results : List IRes
  body : IC

inductive Ex where
  | normal
  | exit (id : Nat)
  | ret
  | panic (v : Value)
/-- A deferred call. -/
structure Dfr where
  f : FuncId
  args : List Value
structure Out where
  x : Ex
  vals : List Value
  m : Mem
  d : List Dfr
inductive Key where
  | call (f : FuncId)
  | loop (l : Nat)
  | dcall (f : FuncId) (pan : Option Value)
abbrev Orc := Key → List Value → Mem → List Dfr → Option Out
abbrev Kont := Ex → Env → Mem → List Dfr → Option Out

def put (env : Env) (dst : Option Nat) (v : Value) : Env :=
  match dst with
  | none => env
  | some d => fun t => if t = d then v else env t
def unpackI (vals : List Value) : List Nat → Nat → Env
  | [], _ => fun _ => undef
  | t :: ts, i => fun x => if x = t then vals.getD i undef else unpackI vals ts (i + 1) x
def unpack (keep : List Nat) (vals : List Value) : Env := unpackI vals keep 0
def envOf : List Value → Env
  | [], _ => undef
  | v :: _, 0 => v
  | _ :: t, n + 1 => envOf t n
/-- A function value of the program's own. -/
def fn? : Value → Option (FuncId × List Value × List Value) | .func (.func f) first cap => some (f, first.toList, cap.toList) | _ => none
def thenK (o : Out) (dst : Option Nat) (env : Env) (d : List Dfr) (k : Kont) : Option Out :=
  match o.x with
  | .ret => (o.vals.head?).bind fun v => k .normal (put env dst v) o.m d
  | .panic v => k (.panic v) env o.m d
  | _ => none
def evOp1 (O : Orc) (op : IOp) (dst : Option Nat) (env : Env) (m : Mem) (d : List Dfr) (k : Kont) : Option Out :=
  match op with
  | .plain p => (aop p (aev env) m).bind fun r => k .normal (put env dst r.1) r.2 d
  | .call f as => (O (.call f) (as.map (aev env)) m []).bind fun o => thenK o dst env d k
  | .callV x as => (fn? (aev env x)).bind fun c => (O (.call c.1) (c.2.1 ++ as.map (aev env) ++ c.2.2) m []).bind fun o => thenK o dst env d k
  | .dfr x as => (fn? (aev env x)).bind fun c => k .normal (put env dst undef) m (⟨c.1, c.2.1 ++ as.map (aev env) ++ c.2.2⟩ :: d)
  | .panic x => match aev env x with
    | .iface t v => k (.panic (.iface t v)) env m d
    | _ => none
  | .recover => none
def isGone : Value → Bool | .chan (some _) => true | _ => false
/-- Each test is made only where the ones ahead of it hold; where one does not, the last is known to be of an operation that was not wanted. -/
def guarded : List (Nat × Bool) → Env → Option Out → Option Out → Option Out
  | [], env, a, b => a
  | (t, want) :: r, env, a, b => (bool? (env t)).bind fun c => if c = want then guarded r env a b else (match r.getLast? with | none => b | some q => if isGone (env q.1) = true then b else none)
def evOp (O : Orc) (o : IOper) (env : Env) (m : Mem) (d : List Dfr) (k : Kont) : Option Out :=
  guarded o.guard env (evOp1 O o.op o.dst env m d k) (k .normal (put env o.dst gone) m d)
def evOps (O : Orc) : List IOper → Env → Mem → List Dfr → Kont → Option Out
  | [], env, m, d, k => k .normal env m d
  | o :: t, env, m, d, k => evOp O o env m d fun x env m d => match x with | .normal => evOps O t env m d k | x => k x env m d
/-- An operation where the order is open. -/
def qOp1 (O : Orc) (op : IOp) (env : Env) (m : Mem) : Option (Value × Mem) :=
  match op with
  | .plain p => aop p (aev env) m
  | .call f as => (O (.call f) (as.map (aev env)) m []).bind fun o => match o.x with | .ret => (o.vals.head?).bind fun v => some (v, o.m) | _ => none
  | .callV x as => (fn? (aev env x)).bind fun c => (O (.call c.1) (c.2.1 ++ as.map (aev env) ++ c.2.2) m []).bind fun o => match o.x with | .ret => (o.vals.head?).bind fun v => some (v, o.m) | _ => none
  | _ => none
/-- A call that panics. -/
def qPan1 (O : Orc) (op : IOp) (env : Env) (m : Mem) : Option (Value × Mem) :=
  match op with
  | .call f as => (O (.call f) (as.map (aev env)) m []).bind fun o => match o.x with | .panic v => some (v, o.m) | _ => none
  | .callV x as => (fn? (aev env x)).bind fun c => (O (.call c.1) (c.2.1 ++ as.map (aev env) ++ c.2.2) m []).bind fun o => match o.x with | .panic v => some (v, o.m) | _ => none
  | _ => none
/-- What an operation may read. -/
def mask (rs : List Nat) (env : Env) : Env := fun t => if rs.contains t = true then env t else undef
/-- The same plain value; a place is of a row ahead of the region. -/
def eqv (n0 : Nat) (a b : Value) : Bool :=
  match a, b with
  | .int k x, .int l y => decide (k = l) && decide (x = y)
  | .bool x, .bool y => decide (x = y)
  | .string x, .string y => decide (x.data.toList = y.data.toList)
  | .pointer none, .pointer none => true
  | .pointer (some ⟨o, i, none⟩), .pointer (some ⟨q, j, none⟩) => decide (o = q) && decide (i = j) && decide (o < n0)
  | .slice none 0 0, .slice none 0 0 => true
  | .slice (some ⟨o, i, none⟩) n c, .slice (some ⟨q, j, none⟩) k d => decide (o = q) && decide (i = j) && decide (n = k) && decide (c = d) && decide (o < n0)
  | .nilFunc, .nilFunc => true
  | .nilIface, .nilIface => true
  | _, _ => false
theorem eqv_eq {n0 : Nat} {a b : Value} (h : eqv n0 a b = true) : a = b := by
  unfold eqv at h
  split at h <;> first
    | (simp only [Bool.and_eq_true, decide_eq_true_eq] at h; obtain ⟨⟨⟨⟨rfl, rfl⟩, rfl⟩, rfl⟩, _⟩ := h; rfl)
    | (simp only [Bool.and_eq_true, decide_eq_true_eq] at h; obtain ⟨⟨rfl, rfl⟩, _⟩ := h; rfl)
    | (simp only [Bool.and_eq_true, decide_eq_true_eq] at h; obtain ⟨rfl, rfl⟩ := h; rfl)
    | (simp only [decide_eq_true_eq] at h
       rename_i x y
       obtain ⟨⟨x⟩⟩ := x
       obtain ⟨⟨y⟩⟩ := y
       simp only at h
       rw [h])
    | (simp only [decide_eq_true_eq] at h; rw [h])
    | rfl
    | cases h
/-- What such a value is where the places ahead of the region are the same. -/
theorem eqv_rel {n0 : Nat} {a b : Value} (h : eqv n0 a b = true) {ι ι' : Inj} (hl : ∀ o g, o < n0 → ι' o = some g → ι o = some g) {v : Value} (hv : VRel ι' a v) : VRel ι a v := by
  unfold eqv at h
  split at h <;> first
    | (rw [hv.of_base rfl]; exact .base rfl)
    | (simp only [Bool.and_eq_true, decide_eq_true_eq] at h
       cases hv with
       | base hb => exact .base hb
       | ptr hg => exact .ptr (hl _ _ h.2 hg))
    | (simp only [Bool.and_eq_true, decide_eq_true_eq] at h
       cases hv with
       | base hb => exact .base hb
       | slice hg h1 h2 h3 h4 => exact .slice (hl _ _ h.2 hg) h1 h2 h3 h4)
    | (cases hv with
       | base hb => exact .base hb)
    | cases h
def chk1 (n0 : Nat) (x : Option (Value × Mem)) (v : Value) : Bool := match x with | some r => eqv n0 r.1 v | none => false
/-- What was read is still there. -/
def chks (n0 : Nat) (l : List (IOper × List Nat)) (env : Env) (m : Mem) : Bool :=
  l.all fun c => match c.1.op with | .plain p => chk1 n0 (aop p (aev (mask c.2 env)) m) (env (c.1.dst.getD 0)) | _ => false
def qRun (O : Orc) (o : IOper) (q : QK) (env : Env) (m : Mem) : Option (Value × Mem) :=
  match q with
  | .quiet => (qOp1 O o.op env (m.floor m.next)).map fun r => (r.1, r.2.floor m.lo)
  | _ => qOp1 O o.op env m
def qDo (O : Orc) (n0 : Nat) (o : IOper) (rs : List Nat) (q : QK) (env : Env) (m : Mem) (k : Env → Mem → Option Out) (kp : Value → Mem → Option Out) : Option Out :=
  match q with
  | .lone pan chk => (match qOp1 O o.op (mask rs env) m with
    | some r => if chks n0 chk (put env o.dst r.1) r.2 = true then k (put env o.dst r.1) r.2 else none
    | none => if pan = true then (qPan1 O o.op (mask rs env) m).bind fun r => kp r.1 r.2 else none)
  | q => (qRun O o q (mask rs env) m).bind fun r => k (put env o.dst r.1) r.2
def qOp (O : Orc) (n0 : Nat) (o : IOper) (rs : List Nat) (q : QK) (env : Env) (m : Mem) (k : Env → Mem → Option Out) (kp : Value → Mem → Option Out) : Option Out :=
  guarded o.guard (mask rs env) (qDo O n0 o rs q env m k kp) (k (put env o.dst gone) m)
def qOps (O : Orc) (n0 : Nat) : List (IOper × List Nat × QK) → Env → Mem → (Env → Mem → Option Out) → (Value → Mem → Option Out) → Option Out
  | [], env, m, k, _ => k env m
  | o :: t, env, m, k, kp => qOp O n0 o.1 o.2.1 o.2.2 env m (fun env m => qOps O n0 t env m k kp) kp
/-- What the operations of a region write is unknown behind a panic. -/
def wipe (ops : List (IOper × List Nat × QK)) (env : Env) : Env := fun t => if ops.any (fun x => x.1.dst == some t) = true then undef else env t
def ev (O : Orc) : IC → Env → Mem → List Dfr → Kont → Option Out
  | .skip, env, m, d, k => k .normal env m d
  | .region ops, env, m, d, k => evOps O ops env m d k
  | .draws ops, env, m, d, k => qOps O m.next ops env m (fun env m => k .normal env m d) fun v m => k (.panic v) (wipe ops env) m d
  | .seq a b, env, m, d, k => ev O a env m d fun x env m d => match x with | .normal => ev O b env m d k | x => k x env m d
  | .cut keep a b, env, m, d, k => (ev O a env m d fun x env m d => some ⟨x, keep.map env, m, d⟩).bind fun o => match o.x with | .normal => ev O b (unpack keep o.vals) o.m o.d k | x => k x (unpack keep o.vals) o.m o.d
  | .cond c t e, env, m, d, k => (bool? (aev env c)).bind fun b => if b = true then ev O t env m d k else ev O e env m d k
  | .block id b, env, m, d, k => ev O b env m d fun x env m d => match x with | .exit j => if j = id then k .normal env m d else k (.exit j) env m d | x => k x env m d
  | .loop l keep, env, m, d, k => (O (.loop l) (keep.map env) m d).bind fun o => match o.x with | .normal => none | x => k x (unpack keep o.vals) o.m o.d
  | .exit id, env, m, d, k => k (.exit id) env m d
  | .ret, env, m, d, k => k .ret env m d
  | .scope b, env, m, d, k => ev O b env m d k
/-- A deferred function, which may ask what the panic was. -/
abbrev KontS := Ex → Env → Mem → Option Value → Option Out
def recov? (o : IOper) : Bool := match o.op, o.guard with | .recover, [] => true | _, _ => false
def evOpsS (O : Orc) : List IOper → Env → Mem → Option Value → KontS → Option Out
  | [], env, m, p, k => k .normal env m p
  | o :: t, env, m, p, k => match recov? o with
    | true => evOpsS O t (put env o.dst (p.getD .nilIface)) m none k
    | false => evOp O o env m [] fun x env m d => match x, d with | .normal, [] => evOpsS O t env m p k | _, _ => none
def evS (O : Orc) : IC → Env → Mem → Option Value → KontS → Option Out
  | .skip, env, m, p, k => k .normal env m p
  | .region ops, env, m, p, k => evOpsS O ops env m p k
  | .seq a b, env, m, p, k => evS O a env m p fun x env m p => match x with | .normal => evS O b env m p k | x => k x env m p
  | .cond c t e, env, m, p, k => (bool? (aev env c)).bind fun b => if b = true then evS O t env m p k else evS O e env m p k
  | .ret, env, m, p, k => k .ret env m p
  | c, env, m, p, k => ev O c env m [] fun x env m d => match x, d with | .normal, [] => k .normal env m p | .ret, [] => k .ret env m p | _, _ => none

def resL (env : Env) (m : Mem) : List IRes → Option (List Value)
  | [] => some []
  | .tmp t :: r => (resL env m r).map (env t :: ·)
  | .cell t n g :: r => (aLoad n g (env t) m).bind fun v => (resL env m r).map (v.1 :: ·)
def pack : List Value → Value
  | [v] => v
  | l => .tuple l.toArray
def resOf (fn : IFun) (env : Env) (m : Mem) : Option Value := (resL env m fn.results).map pack
def leaves (O : Orc) (fn : IFun) (env : Env) : List Dfr → Option Value → Mem → Option Out
  | [], none, m => (resOf fn env m).bind fun v => some ⟨.ret, [v], m, []⟩
  | [], some v, m => some ⟨.panic v, [], m, []⟩
  | df :: ds, pan, m => (O (.dcall df.f pan) df.args m []).bind fun o => match o.x, o.vals with
    | .ret, [.bool r] => leaves O fn env ds (if r = true then none else pan) o.m
    | _, _ => none
def fin (O : Orc) (fn : IFun) : Kont := fun x env m d =>
  match x with
  | .normal => leaves O fn env d none m
  | .ret => leaves O fn env d none m
  | .panic v => leaves O fn env d (some v) m
  | .exit _ => none
def finS (fn : IFun) (pan : Option Value) : KontS := fun x env m p =>
  match x with
  | .normal => (resOf fn env m).bind fun _ => some ⟨.ret, [.bool (pan.isSome && p.isNone)], m, []⟩
  | .ret => (resOf fn env m).bind fun _ => some ⟨.ret, [.bool (pan.isSome && p.isNone)], m, []⟩
  | _ => none
def again (O : Orc) (l : Nat) (keep : List Nat) : Kont := fun x env m d =>
  match x with
  | .normal => O (.loop l) (keep.map env) m d
  | x => some ⟨x, keep.map env, m, d⟩

/-- The functions, the loops, and what is given. -/
structure Code? where
  irs : FuncId → Option IFun
  lps : Nat → Option (List Nat × IC)
  gv : FuncId → Option (List Value → Mem → Option (Value × Mem))
def step1 (C : Code?) (O : Orc) : Orc
  | .call f, args, m, _ => match C.gv f with
    | some g => (g args m).bind fun r => some ⟨.ret, [r.1], r.2, []⟩
    | none => (C.irs f).bind fun fn => if args.length ≤ fn.n then ev O fn.body (envOf args) m [] (fin O fn) else none
  | .loop l, vals, m, d => (C.lps l).bind fun p => ev O p.2 (unpack p.1 vals) m d (again O l p.1)
  | .dcall f pan, args, m, _ => (C.irs f).bind fun fn => if args.length ≤ fn.n then evS O fn.body (envOf args) m pan (finS fn pan) else none
def E (C : Code?) : Nat → Orc
  | 0 => fun _ _ _ _ => none
  | n + 1 => step1 C (E C n)

/-! ### More rounds give the same answer -/
def Le (O O' : Orc) : Prop := ∀ k a m d r, O k a m d = some r → O' k a m d = some r
theorem bind_le {α : Type} {x x' : Option α} {f f' : α → Option Out} {r : Out} (hx : ∀ a, x = some a → x' = some a) (hf : ∀ a r, f a = some r → f' a = some r) (h : x.bind f = some r) : x'.bind f' = some r := by
  cases x with
  | none => cases h
  | some a => rw [hx a rfl]; exact hf a r h
def KLe (k k' : Kont) : Prop := ∀ x e m d r, k x e m d = some r → k' x e m d = some r
theorem thenK_le {o : Out} {dst : Option Nat} {env : Env} {d : List Dfr} {k k' : Kont} (hk : KLe k k') {r : Out} (h : thenK o dst env d k = some r) : thenK o dst env d k' = some r := by
  unfold thenK at h ⊢
  split at h
  · exact bind_le (fun _ h => h) (fun v r h => hk _ _ _ _ r h) h
  · exact hk _ _ _ _ r h
  · cases h
theorem evOp1_le {O O' : Orc} (hO : Le O O') {op : IOp} {dst : Option Nat} {env : Env} {m : Mem} {d : List Dfr} {k k' : Kont} (hk : KLe k k') {r : Out} (h : evOp1 O op dst env m d k = some r) : evOp1 O' op dst env m d k' = some r := by
  cases op with
  | plain p => exact bind_le (fun _ h => h) (fun v r h => hk _ _ _ _ r h) h
  | call f as => exact bind_le (fun _ h => hO _ _ _ _ _ h) (fun v r h => thenK_le hk h) h
  | callV x as => exact bind_le (fun _ h => h) (fun c r h => bind_le (fun _ h => hO _ _ _ _ _ h) (fun v r h => thenK_le hk h) h) h
  | dfr x as => exact bind_le (fun _ h => h) (fun v r h => hk _ _ _ _ r h) h
  | panic x =>
    cases hv : aev env x <;> simp only [evOp1, hv] at h ⊢ <;> first | exact hk _ _ _ _ r h | cases h
  | recover => cases h
theorem guarded_le : ∀ {g : List (Nat × Bool)} {env : Env} {a a' b b' : Option Out} {r : Out}, (∀ r, a = some r → a' = some r) → (∀ r, b = some r → b' = some r) → guarded g env a b = some r → guarded g env a' b' = some r := by
  intro g
  induction g with
  | nil => intro env a a' b b' r ha hb h; exact ha r h
  | cons p t ih =>
    intro env a a' b b' r ha hb h
    obtain ⟨x, want⟩ := p
    unfold guarded at h ⊢
    refine bind_le (fun _ h => h) (fun c r h => ?_) h
    split at h
    · rw [if_pos ‹_›]; exact ih ha hb h
    · rw [if_neg ‹_›]
      cases hl : t.getLast? with
      | none => rw [hl] at h; exact hb r h
      | some q =>
        rw [hl] at h
        simp only at h ⊢
        split at h
        · rw [if_pos ‹_›]; exact hb r h
        · cases h
theorem evOp_le {O O' : Orc} (hO : Le O O') {o : IOper} {env : Env} {m : Mem} {d : List Dfr} {k k' : Kont} (hk : KLe k k') {r : Out} (h : evOp O o env m d k = some r) : evOp O' o env m d k' = some r :=
  guarded_le (fun _ h => evOp1_le hO hk h) (fun _ h => hk _ _ _ _ _ h) h
theorem evOps_le {O O' : Orc} (hO : Le O O') : ∀ {ops : List IOper} {env : Env} {m : Mem} {d : List Dfr} {k k' : Kont}, KLe k k' → ∀ {r : Out}, evOps O ops env m d k = some r → evOps O' ops env m d k' = some r := by
  intro ops
  induction ops with
  | nil => intro env m d k k' hk r h; exact hk _ _ _ _ r h
  | cons o t ih =>
    intro env m d k k' hk r h
    refine evOp_le hO (fun x e m d r h => ?_) h
    cases x with
    | normal => exact ih hk h
    | _ => exact hk _ _ _ _ r h
theorem qOp1_le {O O' : Orc} (hO : Le O O') {op : IOp} {env : Env} {m : Mem} {r : Value × Mem} (h : qOp1 O op env m = some r) : qOp1 O' op env m = some r := by
  have key : ∀ (k : Key) (l : List Value) (m : Mem), ((O k l m []).bind fun o => match o.x with | .ret => (o.vals.head?).bind fun v => some (v, o.m) | _ => none) = some r → ((O' k l m []).bind fun o => match o.x with | .ret => (o.vals.head?).bind fun v => some (v, o.m) | _ => none) = some r := by
    intro k l m h
    cases ho : O k l m [] with
    | none => rw [ho] at h; cases h
    | some o => rw [ho] at h; rw [hO _ _ _ _ _ ho]; exact h
  cases op with
  | plain p => exact h
  | call f as => exact key _ _ _ h
  | callV x as =>
    simp only [qOp1] at h ⊢
    cases hf : fn? (aev env x) with
    | none => rw [hf] at h; cases h
    | some c => rw [hf] at h; exact key _ _ _ h
  | _ => cases h
theorem qRun_le {O O' : Orc} (hO : Le O O') {o : IOper} {q : QK} {env : Env} {m : Mem} {r : Value × Mem} (h : qRun O o q env m = some r) : qRun O' o q env m = some r := by
  cases q with
  | pure => exact qOp1_le hO h
  | lone => exact qOp1_le hO h
  | peek => exact qOp1_le hO h
  | quiet =>
    simp only [qRun] at h ⊢
    cases hq : qOp1 O o.op env (m.floor m.next) with
    | none => rw [hq] at h; cases h
    | some p => rw [hq] at h; rw [qOp1_le hO hq]; exact h
theorem qPan1_le {O O' : Orc} (hO : Le O O') {op : IOp} {env : Env} {m : Mem} {r : Value × Mem} (h : qPan1 O op env m = some r) : qPan1 O' op env m = some r ∧ qOp1 O' op env m = none := by
  have key : ∀ (k : Key) (l : List Value) (m : Mem), ((O k l m []).bind fun o => match o.x with | .panic v => some (v, o.m) | _ => none) = some r → ((O' k l m []).bind fun o => match o.x with | .panic v => some (v, o.m) | _ => none) = some r ∧ ((O' k l m []).bind fun o => match o.x with | .ret => (o.vals.head?).bind fun v => some (v, o.m) | _ => none) = (none : Option (Value × Mem)) := by
    intro k l m h
    cases ho : O k l m [] with
    | none => rw [ho] at h; cases h
    | some o =>
      rw [ho] at h; rw [hO _ _ _ _ _ ho]
      refine ⟨h, ?_⟩
      simp only [Option.bind_some] at h ⊢
      split at h
      · rename_i v hv
        rw [hv]
      · cases h
  cases op with
  | call f as => exact key _ _ _ h
  | callV x as =>
    simp only [qPan1, qOp1] at h ⊢
    cases hf : fn? (aev env x) with
    | none => rw [hf] at h; cases h
    | some c => rw [hf] at h; exact key _ _ _ h
  | _ => cases h
theorem qPan1_none {O : Orc} {op : IOp} {env : Env} {m : Mem} {r : Value × Mem} (h : qPan1 O op env m = some r) : qOp1 O op env m = none := (qPan1_le (O := O) (fun _ _ _ _ _ h => h) h).2
theorem qDo_le {O O' : Orc} (hO : Le O O') {n0 : Nat} {o : IOper} {rs : List Nat} {q : QK} {env : Env} {m : Mem} {k k' : Env → Mem → Option Out} {kp kp' : Value → Mem → Option Out} (hk : ∀ e m r, k e m = some r → k' e m = some r) (hp : ∀ v m r, kp v m = some r → kp' v m = some r) {r : Out} (h : qDo O n0 o rs q env m k kp = some r) : qDo O' n0 o rs q env m k' kp' = some r := by
  cases q with
  | lone pan chk =>
    simp only [qDo] at h ⊢
    cases hq : qOp1 O o.op (mask rs env) m with
    | some p =>
      rw [hq] at h; rw [qOp1_le hO hq]
      simp only at h ⊢
      split at h
      · rw [if_pos ‹_›]; exact hk _ _ _ h
      · cases h
    | none =>
      rw [hq] at h
      simp only at h
      split at h
      · cases hq2 : qPan1 O o.op (mask rs env) m with
        | none => rw [hq2] at h; cases h
        | some p =>
          rw [hq2] at h
          obtain ⟨h1, h2⟩ := qPan1_le hO hq2
          rw [h1, h2, if_pos ‹_›]
          exact hp _ _ _ h
      · cases h
  | _ => exact bind_le (fun _ h => qRun_le hO h) (fun _ _ h => hk _ _ _ h) h
theorem qOps_le {O O' : Orc} (hO : Le O O') {n0 : Nat} : ∀ {ops : List (IOper × List Nat × QK)} {env : Env} {m : Mem} {k k' : Env → Mem → Option Out} {kp kp' : Value → Mem → Option Out}, (∀ e m r, k e m = some r → k' e m = some r) → (∀ v m r, kp v m = some r → kp' v m = some r) → ∀ {r : Out}, qOps O n0 ops env m k kp = some r → qOps O' n0 ops env m k' kp' = some r := by
  intro ops
  induction ops with
  | nil => intro env m k k' kp kp' hk hp r h; exact hk _ _ r h
  | cons o t ih =>
    intro env m k k' kp kp' hk hp r h
    exact guarded_le (fun _ h => qDo_le hO (fun _ _ _ h => ih hk hp h) hp h) (fun _ h => ih hk hp h) h
theorem ev_le {O O' : Orc} (hO : Le O O') : ∀ {c : IC} {env : Env} {m : Mem} {d : List Dfr} {k k' : Kont}, KLe k k' → ∀ {r : Out}, ev O c env m d k = some r → ev O' c env m d k' = some r := by
  intro c
  induction c with
  | skip => intro env m d k k' hk r h; exact hk _ _ _ _ r h
  | region ops => intro env m d k k' hk r h; exact evOps_le hO hk h
  | draws ops => intro env m d k k' hk r h; exact qOps_le hO (fun e m r h => hk _ _ _ _ r h) (fun v m r h => hk _ _ _ _ r h) h
  | seq a b iha ihb =>
    intro env m d k k' hk r h
    refine iha (fun x e m d r h => ?_) h
    cases x with
    | normal => exact ihb hk h
    | _ => exact hk _ _ _ _ r h
  | cut keep a b iha ihb =>
    intro env m d k k' hk r h
    refine bind_le (fun o h => iha (fun x e m d r h => h) h) (fun o r h => ?_) h
    split at h
    · exact ihb hk h
    · exact hk _ _ _ _ r h
  | cond c t e iht ihe =>
    intro env m d k k' hk r h
    refine bind_le (fun _ h => h) (fun b r h => ?_) h
    split at h
    · rw [if_pos ‹_›]; exact iht hk h
    · rw [if_neg ‹_›]; exact ihe hk h
  | block id b ih =>
    intro env m d k k' hk r h
    refine ih (fun x e m d r h => ?_) h
    split at h
    · split at h
      · rw [if_pos ‹_›]; exact hk _ _ _ _ r h
      · rw [if_neg ‹_›]; exact hk _ _ _ _ r h
    · exact hk _ _ _ _ r h
  | loop l keep =>
    intro env m d k k' hk r h
    refine bind_le (fun _ h => hO _ _ _ _ _ h) (fun o r h => ?_) h
    split at h
    · cases h
    · exact hk _ _ _ _ r h
  | exit id => intro env m d k k' hk r h; exact hk _ _ _ _ r h
  | ret => intro env m d k k' hk r h; exact hk _ _ _ _ r h
  | scope b ih => intro env m d k k' hk r h; exact ih hk h
def KSLe (k k' : KontS) : Prop := ∀ x e m p r, k x e m p = some r → k' x e m p = some r
theorem evOpsS_le {O O' : Orc} (hO : Le O O') : ∀ {ops : List IOper} {env : Env} {m : Mem} {p : Option Value} {k k' : KontS}, KSLe k k' → ∀ {r : Out}, evOpsS O ops env m p k = some r → evOpsS O' ops env m p k' = some r := by
  intro ops
  induction ops with
  | nil => intro env m p k k' hk r h; exact hk _ _ _ _ r h
  | cons o t ih =>
    intro env m p k k' hk r h
    unfold evOpsS at h ⊢
    cases hr : recov? o <;> simp only [hr] at h ⊢
    rotate_left
    · exact ih hk h
    · refine evOp_le hO (fun x e m d r h => ?_) h
      split at h
      · exact ih hk h
      · cases h
theorem evS_rest_le {O O' : Orc} (hO : Le O O') {c : IC} {env : Env} {m : Mem} {p : Option Value} {k k' : KontS} (hk : KSLe k k') {r : Out}
    (h : (ev O c env m [] fun x env m d => match x, d with | .normal, [] => k .normal env m p | .ret, [] => k .ret env m p | _, _ => none) = some r) :
    (ev O' c env m [] fun x env m d => match x, d with | .normal, [] => k' .normal env m p | .ret, [] => k' .ret env m p | _, _ => none) = some r := by
  refine ev_le hO (fun x e m d r h => ?_) h
  split at h
  · exact hk _ _ _ _ r h
  · exact hk _ _ _ _ r h
  · cases h
theorem evS_le {O O' : Orc} (hO : Le O O') : ∀ {c : IC} {env : Env} {m : Mem} {p : Option Value} {k k' : KontS}, KSLe k k' → ∀ {r : Out}, evS O c env m p k = some r → evS O' c env m p k' = some r := by
  intro c
  induction c with
  | skip => intro env m p k k' hk r h; exact hk _ _ _ _ r h
  | region ops => intro env m p k k' hk r h; exact evOpsS_le hO hk h
  | seq a b iha ihb =>
    intro env m p k k' hk r h
    refine iha (fun x e m p r h => ?_) h
    cases x with
    | normal => exact ihb hk h
    | _ => exact hk _ _ _ _ r h
  | cond c t e iht ihe =>
    intro env m p k k' hk r h
    refine bind_le (fun _ h => h) (fun b r h => ?_) h
    split at h
    · rw [if_pos ‹_›]; exact iht hk h
    · rw [if_neg ‹_›]; exact ihe hk h
  | ret => intro env m p k k' hk r h; exact hk _ _ _ _ r h
  | draws ops => intro env m p k k' hk r h; exact evS_rest_le hO hk h
  | cut keep a b => intro env m p k k' hk r h; exact evS_rest_le hO hk h
  | block id b => intro env m p k k' hk r h; exact evS_rest_le hO hk h
  | loop l keep => intro env m p k k' hk r h; exact evS_rest_le hO hk h
  | exit id => intro env m p k k' hk r h; exact evS_rest_le hO hk h
  | scope b => intro env m p k k' hk r h; exact evS_rest_le hO hk h
theorem leaves_le {O O' : Orc} (hO : Le O O') {fn : IFun} {env : Env} : ∀ {ds : List Dfr} {p : Option Value} {m : Mem} {r : Out}, leaves O fn env ds p m = some r → leaves O' fn env ds p m = some r := by
  intro ds
  induction ds with
  | nil => intro p m r h; cases p <;> exact h
  | cons df ds ih =>
    intro p m r h
    refine bind_le (fun _ h => hO _ _ _ _ _ h) (fun o r h => ?_) h
    split at h
    · exact ih h
    · cases h
theorem fin_le {O O' : Orc} (hO : Le O O') (fn : IFun) : KLe (fin O fn) (fin O' fn) := by
  intro x e m d r h
  cases x with
  | normal => exact leaves_le hO h
  | ret => exact leaves_le hO h
  | panic v => exact leaves_le hO h
  | exit id => cases h
theorem step1_le {C : Code?} {O O' : Orc} (hO : Le O O') : Le (step1 C O) (step1 C O') := by
  intro k a m d r h
  cases k with
  | call f =>
    simp only [step1] at h ⊢
    split at h
    · exact h
    · refine bind_le (fun _ h => h) (fun fn r h => ?_) h
      split at h
      · rw [if_pos ‹_›]; exact ev_le hO (fin_le hO fn) h
      · cases h
  | loop l =>
    refine bind_le (fun _ h => h) (fun p r h => ev_le hO (fun x e m d r h => ?_) h) h
    cases x with
    | normal => exact hO _ _ _ _ _ h
    | _ => exact h
  | dcall f pan =>
    refine bind_le (fun _ h => h) (fun fn r h => ?_) h
    split at h
    · rw [if_pos ‹_›]; exact evS_le hO (fun _ _ _ _ _ h => h) h
    · cases h
theorem E_le (C : Code?) (n : Nat) : Le (E C n) (E C (n + 1)) := by
  induction n with
  | zero => intro k a m d r h; cases h
  | succ n ih => exact step1_le ih
theorem E_mono (C : Code?) {n j : Nat} (h : n ≤ j) : Le (E C n) (E C j) := by
  induction j with
  | zero =>
    obtain rfl : n = 0 := by omega
    exact fun _ _ _ _ _ h => h
  | succ j ih =>
    by_cases e : n = j + 1
    · subst e; exact fun _ _ _ _ _ h => h
    · exact fun k a m d r hr => E_le C j k a m d r (ih (by omega) k a m d r hr)
end Go.Proofs.Ytjojfpmelhaknaa.D
