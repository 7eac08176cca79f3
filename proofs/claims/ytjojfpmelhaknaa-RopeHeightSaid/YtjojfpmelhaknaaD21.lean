/-
  A deterministic reading of the program's code: in the form that is printed.
-/
import Derived.Test.YtjojfpmelhaknaaD20
namespace Go.Proofs.Ytjojfpmelhaknaa.D
open Go.RowKit
set_option linter.unusedVariables false
set_option linter.unusedSimpArgs false

def aLd (n : Nat) (g : Bool) (x : Value) (m : Mem) : Option Value :=
  (addr? x).bind fun p => if g then (m.at_ p.1 p.2 n).bind fun l => some (.agg l.toArray) else m.ld p.1 p.2
theorem aLoad_eq (n : Nat) (g : Bool) (x : Value) (m : Mem) : aLoad n g x m = only m (aLd n g x m) := by
  unfold aLoad aLd only
  cases ha : addr? x with
  | none => rfl
  | some p =>
    obtain ⟨o, off⟩ := p
    cases g with
    | true =>
      simp only [Option.bind_some, if_true]
      cases m.at_ o off n <;> rfl
    | false => rfl
def aSt (n : Nat) (a x : Value) (m : Mem) : Option Mem :=
  (addr? a).bind fun p => if known x = true ∧ x.cells.size = n then m.st p.1 p.2 x.cells.toList else none
theorem aStore_eq (n : Nat) (a x : Value) (m : Mem) : aStore n a x m = (aSt n a x m).bind fun m' => some (undef, m') := by
  unfold aStore aSt
  cases ha : addr? a with
  | none => rfl
  | some p =>
    obtain ⟨o, off⟩ := p
    simp only [Option.bind_some]
    split <;> rfl
abbrev KV := Value → Mem → Option Out
def aopK (p : POp) (ρ : Operand → Value) (m : Mem) (k : KV) : Option Out :=
  match p with
  | .move x => k (ρ x) m
  | .pick c a b => (bool? (ρ c)).bind fun t => k (if t then ρ a else ρ b) m
  | .new sz z => k (.pointer (some ⟨m.next, 0, none⟩)) (m.push ⟨sz, z⟩)
  | .box sz x => if known (ρ x) = true then k (.pointer (some ⟨m.next, 0, none⟩)) (m.push ⟨sz, (ρ x).cells.toList⟩) else none
  | .build ps z parts => (aBuild ps z (parts.map fun p => (p.1, ρ p.2))).bind fun v => k v m
  | .lit sz n z parts => (aLit sz n z (parts.map fun p => (p.1, ρ p.2)) m).bind fun r => k r.1 r.2
  | .load n g a => (aLd n g (ρ a) m).bind fun v => k v m
  | .store n a x => (aSt n (ρ a) (ρ x) m).bind fun m => k undef m
  | .nilCheck x => (aCheck (ρ x)).bind fun v => k v m
  | .bin op x y => (aBin op (ρ x) (ρ y)).bind fun v => k v m
  | .un op x => (aUn op (ρ x)).bind fun v => k v m
  | .eqB neg x y => (aEqB neg (ρ x) (ρ y)).bind fun v => k v m
  | .eqS neg ks x y => (aEqS neg ks (ρ x) (ρ y)).bind fun v => k v m
  | .isNil kk neg x => (aIsNil kk neg (ρ x)).bind fun v => k v m
  | .toInt kk x => (aInt kk (ρ x)).bind fun v => k v m
  | .same x => (aSame (ρ x)).bind fun v => k v m
  | .toBytes x => (aBytes (ρ x) m).bind fun r => k r.1 r.2
  | .mark x => (aMark (ρ x) m).bind fun v => k v m
  | .toStr x => (aStr (ρ x) m).bind fun v => k v m
  | .iface t x => k (.iface t (ρ x)) m
  | .func fn f c => k (.func fn (f.map ρ).toArray (c.map ρ).toArray) m
  | .make sz b z l c => (aMake sz b z (ρ l) (ρ c) m).bind fun r => k r.1 r.2
  | .cutStr x lo hi => (aCutStr (ρ x) (lo.map ρ) (hi.map ρ)).bind fun v => k v m
  | .cut sz x lo hi => (aCut sz (ρ x) (lo.map ρ) (hi.map ρ) m).bind fun v => k v m
  | .cut3 sz x lo hi mx => (aCut3 sz (ρ x) (lo.map ρ) (hi.map ρ) (mx.map ρ) m).bind fun v => k v m
  | .cutArr n sz x lo hi => (aCutArr n sz (ρ x) (lo.map ρ) (hi.map ρ) m).bind fun v => k v m
  | .fieldAddr off x => (aFieldAddr off (ρ x)).bind fun v => k v m
  | .field g n off x => (aField g n off (ρ x)).bind fun v => k v m
  | .idx sz x i => (aIdx sz (ρ x) (ρ i)).bind fun v => k v m
  | .idxArr n sz x i => (aIdxArr n sz (ρ x) (ρ i)).bind fun v => k v m
  | .byte x i => (aByte (ρ x) (ρ i)).bind fun v => k v m
  | .elem g n sz x i => (aElem g n sz (ρ x) (ρ i)).bind fun v => k v m
  | .extract i x => (aExtract i (ρ x)).bind fun v => k v m
  | .assert t ok z x => (aAssert t ok z (ρ x)).bind fun v => k v m
  | .len s x => (match s with | true => aLenS (ρ x) | false => aLenL (ρ x)).bind fun v => k v m
  | .app s sz b x y => (aApp s sz b (ρ x) (ρ y) m).bind fun r => k r.1 r.2
  | .mm mx xs => (aMax mx (xs.map ρ)).bind fun v => k v m
  | .eqP neg x y => (aEqP neg (ρ x) (ρ y)).bind fun v => k v m
  | .toUns x => (aToUns (ρ x) m).bind fun v => k v m
  | .fromUns u n x => (aFromUns u n (ρ x) m).bind fun v => k v m
  | .sdata x => (aSData (ρ x)).bind fun v => k v m
  | .ustr x n => (aUStr (ρ x) (ρ n) m).bind fun r => k r.1 r.2
theorem only_bind (m : Mem) (x : Option Value) (f : Value × Mem → Option Out) : (only m x).bind f = x.bind fun v => f (v, m) := by cases x <;> rfl
theorem aopK_eq (p : POp) (ρ : Operand → Value) (m : Mem) (k : KV) : aopK p ρ m k = (aop p ρ m).bind fun r => k r.1 r.2 := by
  cases p <;> first
    | rfl
    | (simp only [aop, aopK, only_bind]; done)
    | (simp only [aop, aopK, aLoad_eq, only_bind]; done)
    | skip
  · rename_i c a b
    simp only [aop, aopK]
    cases bool? (ρ c) <;> rfl
  · simp only [aop, aopK, aBox]
    split <;> rfl
  · simp only [aop, aopK, aStore_eq]
    cases aSt _ _ _ m <;> rfl
  · rename_i s x
    cases s <;> simp only [aop, aopK, only_bind]
/-- What hangs not on which rows may be written. -/
def isIns : POp → Bool
  | .store .. | .app .. | .ustr .. => false
  | _ => true
theorem ins_floor {p : POp} (h : isIns p = true) (ρ : Operand → Value) (m : Mem) (n : Nat) : ((aop p ρ (m.floor n)).map fun r => (r.1, r.2.floor m.lo)) = aop p ρ m := by
  have ho : ∀ x : Option Value, ((only (m.floor n) x).map fun r => (r.1, r.2.floor m.lo)) = only m x := fun x => by cases x <;> rfl
  cases p <;> first
    | (simp [isIns] at h; done)
    | rfl
    | exact ho _
    | skip
  · rename_i c a b
    simp only [aop]
    cases bool? (ρ c) <;> rfl
  · simp only [aop, aBox]
    split <;> rfl
  · simp only [aop, aLit]
    split
    · cases fillL _ _ _ <;> rfl
    · rfl
  · simp only [aop, aLoad_eq]; exact ho _
  · simp only [aop, aBytes]
    cases str? _ <;> rfl
  · rename_i sz b z l c
    simp only [aop, aMake]
    cases int? (ρ l) with
    | none => rfl
    | some q =>
      cases int? (ρ c) with
      | none => rfl
      | some q2 =>
        simp only [Option.bind_some]
        split
        · split
          · split
            · split <;> rfl
            · rfl
          · rfl
        · rfl
/-- A test. -/
def br (v : Value) (t e : Option Out) : Option Out := (bool? v).bind fun b => if b = true then t else e
def retK (x : Option Out) (kr kp : KV) : Option Out :=
  x.bind fun o => match o.x with | .ret => (o.vals.head?).bind fun v => kr v o.m | .panic v => kp v o.m | _ => none
def panK (x : Value) (k : Value → Option Out) : Option Out := match x with | .iface t v => k (.iface t v) | _ => none
/-- A value with a name. -/
def letK {α : Type} (x : α) (k : α → Option Out) : Option Out := k x
def rvOp1 (O : Orc) (op : IOp) (dst : Option Nat) (env : Env) (m : Mem) (d : List Dfr) (k : Kont) : Option Out :=
  match op with
  | .plain p => aopK p (aev env) m fun v m => k .normal (put env dst v) m d
  | .call f as => retK (O (.call f) (as.map (aev env)) m []) (fun v m => k .normal (put env dst v) m d) fun v m => k (.panic v) env m d
  | .callV x as => (fn? (aev env x)).bind fun c => retK (O (.call c.1) (c.2.1 ++ as.map (aev env) ++ c.2.2) m []) (fun v m => k .normal (put env dst v) m d) fun v m => k (.panic v) env m d
  | .panic x => panK (aev env x) fun v => k (.panic v) env m d
  | op => evOp1 O op dst env m d k
theorem thenK_bind (x : Option Out) (dst : Option Nat) (env : Env) (d : List Dfr) (k : Kont) : (x.bind fun o => thenK o dst env d k) = retK x (fun v m => k .normal (put env dst v) m d) fun v m => k (.panic v) env m d := by
  cases x with
  | none => rfl
  | some o => rfl
theorem rvOp1_eq (O : Orc) (op : IOp) (dst : Option Nat) (env : Env) (m : Mem) (d : List Dfr) (k : Kont) : rvOp1 O op dst env m d k = evOp1 O op dst env m d k := by
  cases op with
  | plain p => exact aopK_eq p (aev env) m fun v m => k .normal (put env dst v) m d
  | call f as => exact (thenK_bind _ _ _ _ _).symm
  | callV x as =>
    simp only [rvOp1, evOp1]
    cases fn? (aev env x) with
    | none => rfl
    | some c => exact (thenK_bind _ _ _ _ _).symm
  | panic x =>
    simp only [rvOp1, evOp1, panK]
    cases aev env x <;> rfl
  | _ => rfl
theorem put_same {env : Env} {g : Nat} {v : Value} (h : env g = v) : put env (some g) v = env := by
  funext t
  simp only [put]
  split
  · subst_vars; rfl
  · rfl
def skipK (q : Option (Nat × Bool)) (env : Env) (b : Env → Option Out) : Option Out :=
  match q with
  | none => b env
  | some q => if isGone (env q.1) = true then b env else none
def rgd : List (Nat × Bool) → Env → (Env → Option Out) → (Env → Option Out) → Option Out
  | [], env, a, b => a env
  | (t, true) :: r, env, a, b => br (env t) (rgd r (put env (some t) (.bool true)) a b) (skipK r.getLast? (put env (some t) (.bool false)) b)
  | (t, false) :: r, env, a, b => br (env t) (skipK r.getLast? (put env (some t) (.bool true)) b) (rgd r (put env (some t) (.bool false)) a b)
def rvOps (O : Orc) : List IOper → Env → Mem → List Dfr → Kont → Option Out
  | [], env, m, d, k => k .normal env m d
  | ⟨dst, op, g⟩ :: t, env, m, d, k => rgd g env (fun env => rvOp1 O op dst env m d fun x env m d => match x with | .normal => rvOps O t env m d k | x => k x env m d) fun env => rvOps O t (put env dst gone) m d k
theorem rgd_eq : ∀ (g : List (Nat × Bool)) (env : Env) (a b : Env → Option Out), rgd g env a b = guarded g env (a env) (b env) := by
  intro g
  induction g with
  | nil => intro env a b; rfl
  | cons p r ih =>
    intro env a b
    obtain ⟨t, want⟩ := p
    cases hb : bool? (env t) with
    | none => cases want <;> simp [rgd, guarded, br, hb]
    | some c =>
      have hc := bool?_some hb
      cases want <;> cases c <;> simp only [rgd, guarded, br, hb, Option.bind_some] <;> simp [put_same hc, ih, skipK] <;> cases r.getLast? <;> rfl
theorem rvOps_eq (O : Orc) : ∀ (ops : List IOper) (env : Env) (m : Mem) (d : List Dfr) (k : Kont), rvOps O ops env m d k = evOps O ops env m d k := by
  intro ops
  induction ops with
  | nil => intro env m d k; rfl
  | cons o t ih =>
    intro env m d k
    have hk : ∀ (op : IOp) (dst : Option Nat) (env : Env) (m : Mem) (d : List Dfr), evOp1 O op dst env m d (fun x env m d => match x with | Ex.normal => rvOps O t env m d k | x => k x env m d) = evOp1 O op dst env m d (fun x env m d => match x with | Ex.normal => evOps O t env m d k | x => k x env m d) := by
      intro op dst env m d
      refine congrArg _ (funext fun x => funext fun e => funext fun m => funext fun d => ?_)
      cases x <;> first | exact ih _ _ _ _ | rfl
    obtain ⟨dst, op, g⟩ := o
    simp only [rvOps, evOps, evOp, rgd_eq, rvOp1_eq, ih]
    congr 1
/-- Where the order is open. -/
def rqOp1 (O : Orc) (op : IOp) (q : QK) (ρ : Operand → Value) (m : Mem) (k : KV) (kp : Value → Mem → Option Out) : Option Out :=
  match op with
  | .plain p => if isIns p = true then aopK p ρ m k else (match q with | .quiet => aopK p ρ (m.floor m.next) fun v m' => k v (m'.floor m.lo) | _ => aopK p ρ m k)
  | .call f as => (match q with | .quiet => retK (O (.call f) (as.map ρ) (m.floor m.next) []) (fun v m' => k v (m'.floor m.lo)) (fun _ _ => none) | .lone true _ => retK (O (.call f) (as.map ρ) m []) k kp | _ => retK (O (.call f) (as.map ρ) m []) k fun _ _ => none)
  | .callV x as => (fn? (ρ x)).bind fun c => (match q with | .quiet => retK (O (.call c.1) (c.2.1 ++ as.map ρ ++ c.2.2) (m.floor m.next) []) (fun v m' => k v (m'.floor m.lo)) (fun _ _ => none) | .lone true _ => retK (O (.call c.1) (c.2.1 ++ as.map ρ ++ c.2.2) m []) k kp | _ => retK (O (.call c.1) (c.2.1 ++ as.map ρ ++ c.2.2) m []) k fun _ _ => none)
  | _ => none
theorem ret_bind (x : Option Out) (k : KV) : ((x.bind fun o => match o.x with | .ret => (o.vals.head?).bind fun v => some (v, o.m) | _ => none).bind fun r => k r.1 r.2) = retK x k fun _ _ => none := by
  cases x with
  | none => rfl
  | some o =>
    unfold retK
    simp only [Option.bind_some]
    cases o.x <;> first
      | rfl
      | (simp only []; cases o.vals.head? <;> rfl)
theorem ret_map (x : Option Out) (f : Value × Mem → Value × Mem) (k : KV) : (((x.bind fun o => match o.x with | .ret => (o.vals.head?).bind fun v => some (v, o.m) | _ => none).map f).bind fun r => k r.1 r.2) = retK x (fun v m => k (f (v, m)).1 (f (v, m)).2) fun _ _ => none := by
  cases x with
  | none => rfl
  | some o =>
    unfold retK
    simp only [Option.bind_some]
    cases o.x <;> first
      | rfl
      | (simp only []; cases o.vals.head? <;> rfl)
theorem pan_bind (x : Option Out) (k : KV) (kp : Value → Mem → Option Out) : (match (x.bind fun o => match o.x with | .ret => (o.vals.head?).bind fun v => some (v, o.m) | _ => none : Option (Value × Mem)) with | some r => k r.1 r.2 | none => (x.bind fun o => match o.x with | .panic v => some (v, o.m) | _ => none : Option (Value × Mem)).bind fun r => kp r.1 r.2) = retK x k kp := by
  cases x with
  | none => rfl
  | some o =>
    unfold retK
    simp only [Option.bind_some]
    cases o.x <;> first
      | rfl
      | (simp only []; cases o.vals.head? <;> rfl)
theorem lone_bind (x : Option (Value × Mem)) (k : KV) : (match x with | some r => k r.1 r.2 | none => if false = true then ((none : Option (Value × Mem)).bind fun r => k r.1 r.2) else none) = x.bind fun r => k r.1 r.2 := by
  cases x <;> rfl
/-- An operation with what goes on behind it. -/
def qGo (O : Orc) (o : IOper) (rs : List Nat) (q : QK) (env : Env) (m : Mem) (k : KV) (kp : Value → Mem → Option Out) : Option Out :=
  match q with
  | .lone pan _ => (match qOp1 O o.op (mask rs env) m with
    | some r => k r.1 r.2
    | none => if pan = true then (qPan1 O o.op (mask rs env) m).bind fun r => kp r.1 r.2 else none)
  | q => (qRun O o q (mask rs env) m).bind fun r => k r.1 r.2
theorem rqOp1_eq (O : Orc) (o : IOper) (q : QK) (rs : List Nat) (env : Env) (m : Mem) (k : KV) (kp : Value → Mem → Option Out) : rqOp1 O o.op q (aev (mask rs env)) m k kp = qGo O o rs q env m k kp := by
  obtain ⟨dst, op, g⟩ := o
  have hn : ∀ (x : Option (Value × Mem)) (pan : Bool), (x.bind fun r => k r.1 r.2) = (match x with | some r => k r.1 r.2 | none => if pan = true then ((none : Option (Value × Mem)).bind fun r => kp r.1 r.2) else none) := fun x pan => by cases x <;> cases pan <;> rfl
  cases op with
  | plain p =>
    simp only [rqOp1, qGo, qRun, qOp1, qPan1]
    by_cases hi : isIns p = true
    · rw [if_pos hi, aopK_eq]
      cases q with
      | quiet => simp only []; rw [ins_floor hi]
      | lone pan l => exact hn _ _
      | _ => rfl
    · rw [if_neg hi]
      cases q with
      | quiet =>
        simp only [aopK_eq]
        cases aop p (aev (mask rs env)) (m.floor m.next) <;> rfl
      | lone pan l => simp only [aopK_eq]; exact hn _ _
      | _ => simp only [aopK_eq]
  | call f as =>
    cases q with
    | quiet => exact (ret_map (O (.call f) (as.map (aev (mask rs env))) (m.floor m.next) []) (fun r => (r.1, r.2.floor m.lo)) k).symm
    | lone pan l =>
      cases pan with
      | true => exact (pan_bind _ _ _).symm
      | false =>
        simp only [rqOp1, qGo, qOp1]
        rw [← ret_bind, hn _ false]; rfl
    | _ => exact (ret_bind _ _).symm
  | callV x as =>
    simp only [rqOp1, qGo, qRun, qOp1, qPan1]
    cases hf : fn? (aev (mask rs env) x) with
    | none => cases q <;> first | rfl | (rename_i pan l; cases pan <;> rfl)
    | some c =>
      simp only [Option.bind_some]
      cases q with
      | quiet => exact (ret_map (O (.call c.1) (c.2.1 ++ as.map (aev (mask rs env)) ++ c.2.2) (m.floor m.next) []) (fun r => (r.1, r.2.floor m.lo)) k).symm
      | lone pan l =>
        cases pan with
        | true => exact (pan_bind _ _ _).symm
        | false =>
          simp only
          rw [← ret_bind, hn _ false]; rfl
      | _ => exact (ret_bind _ _).symm
  | _ => cases q <;> first | rfl | (rename_i pan l; cases pan <;> rfl)
theorem mask_bool {rs : List Nat} {env : Env} {g : Nat} {b : Bool} (h : mask rs env g = .bool b) : env g = .bool b := by
  unfold mask at h
  split at h
  · exact h
  · cases h
def rqg : List (Nat × Bool) → List Nat → Env → (Env → Option Out) → (Env → Option Out) → Option Out
  | [], rs, env, a, b => a env
  | (t, true) :: r, rs, env, a, b => br (mask rs env t) (rqg r rs (put env (some t) (.bool true)) a b) (skipK r.getLast? (mask rs (put env (some t) (.bool false))) fun _ => b (put env (some t) (.bool false)))
  | (t, false) :: r, rs, env, a, b => br (mask rs env t) (skipK r.getLast? (mask rs (put env (some t) (.bool true))) fun _ => b (put env (some t) (.bool true))) (rqg r rs (put env (some t) (.bool false)) a b)
theorem rqg_eq : ∀ (g : List (Nat × Bool)) (rs : List Nat) (env : Env) (a b : Env → Option Out), rqg g rs env a b = guarded g (mask rs env) (a env) (b env) := by
  intro g
  induction g with
  | nil => intro rs env a b; rfl
  | cons p r ih =>
    intro rs env a b
    obtain ⟨t, want⟩ := p
    cases hb : bool? (mask rs env t) with
    | none => cases want <;> simp [rqg, guarded, br, hb]
    | some c =>
      have hc := mask_bool (bool?_some hb)
      cases want <;> cases c <;> simp only [rqg, guarded, br, hb, Option.bind_some] <;> simp [put_same hc, ih, skipK] <;> cases r.getLast? <;> rfl
/-- What was read is looked at again. -/
def peekK (n0 : Nat) (x : Option Value) (v : Value) (k : Option Out) : Option Out := x.bind fun u => if eqv n0 u v = true then k else none
def rqChk (n0 : Nat) : List (IOper × List Nat) → Env → Mem → Option Out → Option Out
  | [], env, m, k => k
  | (⟨dst, .plain (.load n g a), _⟩, rs) :: t, env, m, k => peekK n0 (aLd n g (aev (mask rs env) a) m) (env (dst.getD 0)) (rqChk n0 t env m k)
  | (⟨dst, .plain p, _⟩, rs) :: t, env, m, k => if chk1 n0 (aop p (aev (mask rs env)) m) (env (dst.getD 0)) = true then rqChk n0 t env m k else none
  | _ :: _, _, _, _ => none
theorem rqChk_eq (n0 : Nat) : ∀ (l : List (IOper × List Nat)) (env : Env) (m : Mem) (k : Option Out), rqChk n0 l env m k = if chks n0 l env m = true then k else none := by
  intro l
  induction l with
  | nil => intro env m k; rfl
  | cons c t ih =>
    intro env m k
    obtain ⟨⟨dst, op, g⟩, rs⟩ := c
    have hc : chks n0 ((⟨dst, op, g⟩, rs) :: t) env m = ((match op with | .plain p => chk1 n0 (aop p (aev (mask rs env)) m) (env (dst.getD 0)) | _ => false) && chks n0 t env m) := rfl
    rw [hc]
    cases op with
    | plain p =>
      have hp : rqChk n0 ((⟨dst, .plain p, g⟩, rs) :: t) env m k = if chk1 n0 (aop p (aev (mask rs env)) m) (env (dst.getD 0)) = true then rqChk n0 t env m k else none := by
        cases p with
        | load n g a =>
          simp only [rqChk, peekK, aop, aLoad_eq]
          cases aLd n g (aev (mask rs env) a) m <;> rfl
        | _ => rfl
      rw [hp, ih]
      by_cases h1 : chk1 n0 (aop p (aev (mask rs env)) m) (env (dst.getD 0)) = true
      · by_cases h2 : chks n0 t env m = true
        · simp [h1, h2]
        · simp [h1, h2]
      · simp [h1]
    | _ => rfl
def chkOf (q : QK) : List (IOper × List Nat) := match q with | .lone _ l => l | _ => []
def rqOps (O : Orc) (n0 : Nat) : List (IOper × List Nat × QK) → Env → Mem → (Env → Mem → Option Out) → (Value → Mem → Option Out) → Option Out
  | [], env, m, k, _ => k env m
  | (⟨dst, op, g⟩, rs, q) :: t, env, m, k, kp => rqg g rs env (fun env => rqOp1 O op q (aev (mask rs env)) m (fun v m => rqChk n0 (chkOf q) (put env dst v) m (rqOps O n0 t (put env dst v) m k kp)) kp) fun env => rqOps O n0 t (put env dst gone) m k kp
theorem rqOps_eq (O : Orc) (n0 : Nat) : ∀ (ops : List (IOper × List Nat × QK)) (env : Env) (m : Mem) (k : Env → Mem → Option Out) (kp : Value → Mem → Option Out), rqOps O n0 ops env m k kp = qOps O n0 ops env m k kp := by
  intro ops
  induction ops with
  | nil => intro env m k kp; rfl
  | cons o t ih =>
    intro env m k kp
    obtain ⟨⟨dst, op, g⟩, rs, q⟩ := o
    simp only [rqOps, qOps, qOp, rqg_eq, ih]
    congr 1
    rw [rqOp1_eq O ⟨dst, op, g⟩]
    simp only [rqChk_eq]
    cases q <;> rfl
/-- Behind a loop. -/
def lpK (x : Option Out) (ke : Nat → List Value → Mem → List Dfr → Option Out) (kr : List Value → Mem → List Dfr → Option Out) (kp : Value → List Value → Mem → List Dfr → Option Out) : Option Out :=
  x.bind fun o => match o.x with | .normal => none | .exit id => ke id o.vals o.m o.d | .ret => kr o.vals o.m o.d | .panic v => kp v o.vals o.m o.d
def cutK (x : Option Out) (kn : List Value → Mem → List Dfr → Option Out) (ke : Nat → List Value → Mem → List Dfr → Option Out) (kr : List Value → Mem → List Dfr → Option Out) (kp : Value → List Value → Mem → List Dfr → Option Out) : Option Out :=
  x.bind fun o => match o.x with | .normal => kn o.vals o.m o.d | .exit id => ke id o.vals o.m o.d | .ret => kr o.vals o.m o.d | .panic v => kp v o.vals o.m o.d
def lpN (x : Option Out) (ke : Nat → List Value → Mem → Option Out) (kr : List Value → Mem → Option Out) (kp : Value → List Value → Mem → Option Out) : Option Out :=
  x.bind fun o => match o.d with
    | [] => (match o.x with | .normal => none | .exit id => ke id o.vals o.m | .ret => kr o.vals o.m | .panic v => kp v o.vals o.m)
    | _ => none
def lpD (d : List Dfr) (x : Option Out) (ke : Nat → List Value → Mem → List Dfr → Option Out) (kr : List Value → Mem → List Dfr → Option Out) (kp : Value → List Value → Mem → List Dfr → Option Out) : Option Out :=
  match d with
  | [] => lpN x (fun id vs m => ke id vs m []) (fun vs m => kr vs m []) fun v vs m => kp v vs m []
  | _ => lpK x ke kr kp
def cutN (x : Option Out) (kn : List Value → Mem → Option Out) (ke : Nat → List Value → Mem → Option Out) (kr : List Value → Mem → Option Out) (kp : Value → List Value → Mem → Option Out) : Option Out :=
  x.bind fun o => match o.d with
    | [] => (match o.x with | .normal => kn o.vals o.m | .exit id => ke id o.vals o.m | .ret => kr o.vals o.m | .panic v => kp v o.vals o.m)
    | _ => none
def cutD (d : List Dfr) (x : Option Out) (kn : List Value → Mem → List Dfr → Option Out) (ke : Nat → List Value → Mem → List Dfr → Option Out) (kr : List Value → Mem → List Dfr → Option Out) (kp : Value → List Value → Mem → List Dfr → Option Out) : Option Out :=
  match d with
  | [] => cutN x (fun vs m => kn vs m []) (fun id vs m => ke id vs m []) (fun vs m => kr vs m []) fun v vs m => kp v vs m []
  | _ => cutK x kn ke kr kp
theorem lpD_le {d : List Dfr} {x : Option Out} {ke : Nat → List Value → Mem → List Dfr → Option Out} {kr : List Value → Mem → List Dfr → Option Out} {kp : Value → List Value → Mem → List Dfr → Option Out} {r : Out} (h : lpD d x ke kr kp = some r) : lpK x ke kr kp = some r := by
  cases d with
  | nil =>
    cases x with
    | none => cases h
    | some o =>
      obtain ⟨x, vals, m, d⟩ := o
      cases d with
      | nil => exact h
      | cons a b => cases h
  | cons a b => exact h
theorem cutD_le {d : List Dfr} {x : Option Out} {kn : List Value → Mem → List Dfr → Option Out} {ke : Nat → List Value → Mem → List Dfr → Option Out} {kr : List Value → Mem → List Dfr → Option Out} {kp : Value → List Value → Mem → List Dfr → Option Out} {r : Out} (h : cutD d x kn ke kr kp = some r) : cutK x kn ke kr kp = some r := by
  cases d with
  | nil =>
    cases x with
    | none => cases h
    | some o =>
      obtain ⟨x, vals, m, d⟩ := o
      cases d with
      | nil => exact h
      | cons a b => cases h
  | cons a b => exact h
def rv (O : Orc) : IC → Env → Mem → List Dfr → Kont → Option Out
  | .skip, env, m, d, k => k .normal env m d
  | .region ops, env, m, d, k => rvOps O ops env m d k
  | .draws ops, env, m, d, k => rqOps O m.next ops env m (fun env m => k .normal env m d) fun v m => k (.panic v) (wipe ops env) m d
  | .seq a b, env, m, d, k => rv O a env m d fun x env m d => match x with | .normal => rv O b env m d k | x => k x env m d
  | .cut keep a b, env, m, d, k => cutD d (rv O a env m d fun x env m d => some ⟨x, keep.map env, m, d⟩) (fun vs m d => rv O b (unpack keep vs) m d k) (fun id vs m d => k (.exit id) (unpack keep vs) m d) (fun vs m d => k .ret (unpack keep vs) m d) fun v vs m d => k (.panic v) (unpack keep vs) m d
  | .cond c t e, env, m, d, k => br (aev env c) (rv O t env m d k) (rv O e env m d k)
  | .block id b, env, m, d, k => rv O b env m d fun x env m d => match x with | .exit j => if j = id then k .normal env m d else k (.exit j) env m d | x => k x env m d
  | .loop l keep, env, m, d, k => lpD d (O (.loop l) (keep.map env) m d) (fun id vs m d => k (.exit id) (unpack keep vs) m d) (fun vs m d => k .ret (unpack keep vs) m d) fun v vs m d => k (.panic v) (unpack keep vs) m d
  | .exit id, env, m, d, k => k (.exit id) env m d
  | .ret, env, m, d, k => k .ret env m d
  | .scope b, env, m, d, k => rv O b env m d k
theorem Le.rfl' (O : Orc) : Le O O := fun _ _ _ _ _ h => h
theorem rv_le (O : Orc) : ∀ (c : IC) {env : Env} {m : Mem} {d : List Dfr} {k k' : Kont}, KLe k k' → ∀ {r : Out}, rv O c env m d k = some r → ev O c env m d k' = some r := by
  intro c
  induction c with
  | skip => intro env m d k k' hk r h; exact hk _ _ _ _ r h
  | region ops => intro env m d k k' hk r h; exact evOps_le (Le.rfl' O) hk ((rvOps_eq O ops env m d k).symm.trans h)
  | draws ops => intro env m d k k' hk r h; exact qOps_le (Le.rfl' O) (fun e m r h => hk _ _ _ _ r h) (fun v m r h => hk _ _ _ _ r h) ((rqOps_eq O m.next ops env m _ _).symm.trans h)
  | seq a b iha ihb =>
    intro env m d k k' hk r h
    refine iha (fun x e m d r h => ?_) h
    cases x with
    | normal => exact ihb hk h
    | _ => exact hk _ _ _ _ r h
  | cut keep a b iha ihb =>
    intro env m d k k' hk r h
    refine bind_le (fun o h => iha (fun _ _ _ _ _ h => h) h) (fun o r h => ?_) (cutD_le h)
    obtain ⟨x, vals, m, d⟩ := o
    cases x with
    | normal => exact ihb hk h
    | _ => exact hk _ _ _ _ r h
  | cond c t e iht ihe =>
    intro env m d k k' hk r h
    refine bind_le (fun _ h => h) (fun b r h => ?_) h
    cases b with
    | true => exact iht hk h
    | false => exact ihe hk h
  | block id b ih =>
    intro env m d k k' hk r h
    refine ih (fun x e m d r h => ?_) h
    cases x with
    | exit j =>
      simp only at h ⊢
      split at h
      · rw [if_pos ‹_›]; exact hk _ _ _ _ r h
      · rw [if_neg ‹_›]; exact hk _ _ _ _ r h
    | _ => exact hk _ _ _ _ r h
  | loop l keep =>
    intro env m d k k' hk r h
    refine bind_le (fun _ h => h) (fun o r h => ?_) (lpD_le h)
    obtain ⟨x, vals, m, d⟩ := o
    cases x with
    | normal => cases h
    | _ => exact hk _ _ _ _ r h
  | exit id => intro env m d k k' hk r h; exact hk _ _ _ _ r h
  | ret => intro env m d k k' hk r h; exact hk _ _ _ _ r h
  | scope b ih => intro env m d k k' hk r h; exact ih hk h
theorem R_call {C : Code?} {f : FuncId} {fn : IFun} (hg : C.gv f = none) (hf : C.irs f = some fn) {a : List Value} {m : Mem} (hn : a.length ≤ fn.n) {x : Option Out} (h : rv (L C) fn.body (envOf a) m [] (fin (L C) fn) = x) {r : Out} (hx : x = some r) : L C (.call f) a m [] = some r := by
  rw [L_call hg hf a m [] hn]
  exact rv_le (L C) fn.body (fun _ _ _ _ _ h => h) (h.trans hx)
theorem R_loop {C : Code?} {l : Nat} {keep : List Nat} {b : IC} (hl : C.lps l = some (keep, b)) {vals : List Value} {m : Mem} {d : List Dfr} {x : Option Out} (h : rv (L C) b (unpack keep vals) m d (again (L C) l keep) = x) {r : Out} (hx : x = some r) : L C (.loop l) vals m d = some r := by
  rw [L_loop hl vals m d]
  exact rv_le (L C) b (fun _ _ _ _ _ h => h) (h.trans hx)
end Go.Proofs.Ytjojfpmelhaknaa.D
