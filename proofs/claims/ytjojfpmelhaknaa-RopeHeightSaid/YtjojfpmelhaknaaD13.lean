/-
  A deterministic reading of the program's code: what is read so is what the machine does.
-/
import Derived.Test.YtjojfpmelhaknaaD12
import Derived.Scope
import Derived.Tactics
import Derived.Orders
namespace Go.Proofs.Ytjojfpmelhaknaa.D
open Go.RowKit
set_option linter.unusedVariables false
set_option linter.unusedSimpArgs false

/-! ### The program's code, and its reading -/
def compOp (P : Program) (ty : TypeId) (op : Op) : Option IOp :=
  match op with
  | .call { callee := .value (.func f), args := as, argTypes := _ } => some (.call f as.toList)
  | .call { callee := .value (.tmp t), args := as, argTypes := _ } => some (.callV (.tmp t) as.toList)
  | .defer { callee := .value x, args := as, argTypes := _ } => some (.dfr x as.toList)
  | .panic x => some (.panic x)
  | .call { callee := .builtin .recover, args := _, argTypes := _ } => some .recover
  | op => (compileP P ty op).map .plain
/-- The tests ahead of a test, and it. -/
def chain (ops : Array Oper) : Nat → Nat × Bool → Option (List (Nat × Bool))
  | 0, _ => none
  | n + 1, (j, want) => ((ops[j]?).bind (·.dst)).bind fun t => match (ops[j]?).bind (·.guard) with
    | none => some [(t, want)]
    | some g => (chain ops n g).map fun l => l ++ [(t, want)]
def compGuard (ops : Array Oper) (g : Option (Nat × Bool)) : Option (List (Nat × Bool)) :=
  match g with
  | none => some []
  | some g => chain ops 8 g
def compO (P : Program) (N : Nat) (ops : Array Oper) (o : Oper) : Option IOper :=
  match compGuard ops o.guard, compOp P o.type o.op with
  | some g, some op => if o.dst.all (· < N) then some ⟨o.dst, op, g⟩ else none
  | _, _ => none
def compL (P : Program) (N : Nat) (ops : Array Oper) : List Oper → Option (List IOper)
  | [] => some []
  | o :: t => match compO P N ops o, compL P N ops t with
    | some x, some l => some (x :: l)
    | _, _ => none
def tmpsOf (ops : Array Oper) (o : Oper) : List Nat :=
  (o.op.operands.toList.filterMap fun x => match x with | .tmp t => some t | _ => none) ++ ((compGuard ops o.guard).getD []).map (·.1)
/-- Plain operations that touch no memory. -/
def isP : POp → Bool
  | .move _ | .pick .. | .build .. | .nilCheck _ | .bin .. | .un .. | .eqB .. | .eqS .. | .isNil .. | .toInt .. | .same _ | .iface .. | .func .. | .cutStr .. | .fieldAddr .. | .field .. | .idx .. | .idxArr .. | .byte .. | .elem .. | .extract .. | .assert .. | .len .. | .mm .. | .eqP .. | .sdata _ => true
  | _ => false
def isPO : IOp → Bool
  | .plain p => isP p
  | _ => false
/-- Functions of the program that write to nothing that was there: a call of one leaves what is there, and may stand beside readings. -/
def quietNames : List String := ["noonmark/rope.leaf", "noonmark/rope.both", "noonmark/rope.level", "noonmark/rope.join", "noonmark/rope.of", "(*noonmark/rope.Rope).cut", "(*noonmark/rope.Rope).Len", "(*noonmark/rope.Rope).Height", "(*noonmark/rope.Rope).lineFeeds", "(*noonmark/rope.Rope).Lines"]
def quietF (P : Program) (f : FuncId) : Bool := match P.funcs[f]? with | some F => quietNames.any fun n => F.name == n | none => false
def isW (Q : FuncId → Bool) : IOp → Bool
  | .call f _ => !Q f
  | .plain (.store ..) | .plain (.app ..) | .plain (.ustr ..) | .callV .. => true
  | _ => false
/-- All that an operation stands behind, at last. -/
def closure (os : Array Oper) : List (List Nat) := os.toList.foldl (fun acc o => acc ++ [((o.after.toList.filter fun e => Region.binds .any e).flatMap fun e => e.on :: acc.getD e.on []).eraseDups]) []
/-- What cannot fail. -/
def isMv : IOp → Bool
  | .plain (.move _) => true
  | _ => false
/-- Does it only read? -/
def isRd : IOp → Bool
  | .plain (.load ..) => true
  | _ => false
/-- A reading that stands, in the text, ahead of all that may write and is not ahead of it at any rate. -/
def isPk (Q : FuncId → Bool) (ops : List (IOper × List Nat)) (cl : List (List Nat)) (j : Nat) (x : IOper) : Bool :=
  x.guard.isEmpty && isRd x.op && x.dst.isSome && (ops.zipIdx.all fun q => !isW Q q.1.1.op || decide (j ≤ q.2) || (cl.getD j []).contains q.2) && (ops.getD j (x, [])).2.all fun t => ops.zipIdx.all fun q => q.1.1.dst != some t || (cl.getD j []).contains q.2
def kindOf (Q : FuncId → Bool) (ops : List (IOper × List Nat)) (cl : List (List Nat)) (j : Nat) (x : IOper) : QK :=
  if isPO x.op then .pure
  else if isPk Q ops cl j x then .peek
  else if isW Q x.op && ops.zipIdx.all (fun q => isPO q.1.1.op || q.2 == j || (cl.getD j []).contains q.2 || (cl.getD q.2 []).contains j || (x.guard.isEmpty && decide (q.2 < j) && isPk Q ops cl q.2 q.1.1)) then
    .lone (ops.zipIdx.all fun q => decide (q.2 ≤ j) || (cl.getD q.2 []).contains j || (isMv q.1.1.op && q.1.1.guard.isEmpty))
      ((ops.zipIdx.filter fun q => decide (q.2 < j) && isPk Q ops cl q.2 q.1.1 && !(cl.getD j []).contains q.2).map (·.1))
  else .quiet
def compD (P : Program) (N : Nat) (os : Array Oper) : Option (List (IOper × List Nat × QK)) :=
  (compL P N os os.toList).map fun ops => let l := ops.zip (os.toList.map (tmpsOf os)); l.zipIdx.map fun p => (p.1.1, p.1.2, kindOf (quietF P) l (closure os) p.2 p.1.1)
/-- May the operations be done in any order that the edges allow? No temporary is written twice, and what is read is written by an operation that must be done ahead, or behind, or by none. -/
def drawOk (ops : Array Oper) : Bool :=
  decide (ops.toList.filterMap (·.dst)).Nodup &&
  ops.toList.zipIdx.all fun p => (p.1.after.all fun e => !Region.binds .any e || decide (e.on < p.2)) && (tmpsOf ops p.1).all fun t => ops.toList.zipIdx.all fun q => q.1.dst != some t || ((closure ops).getD p.2 []).contains q.2 || ((closure ops).getD q.2 []).contains p.2 || p.2 == q.2

structure Ctx where
  P : Program
  C : Code?
def Fit (P : Program) (C : Code?) (N : Nat) : Code → IC → Prop
  | .skip, ic => ic = .skip
  | .region _ os false, ic => ∃ ops, compL P N os os.toList = some ops ∧ ic = .region ops
  | .region _ os true, ic => ∃ ops, compD P N os = some ops ∧ drawOk os = true ∧ ic = .draws ops
  | .seq s t, ic => ∃ a b, Fit P C N s a ∧ Fit P C N t b ∧ (ic = .seq a b ∨ ∃ keep, ic = .cut keep a b)
  | .cond c s t, ic => ∃ a b, Fit P C N s a ∧ Fit P C N t b ∧ ic = .cond c a b
  | .block id s, ic => ∃ a, Fit P C N s a ∧ ic = .block id a
  | .loop s, ic => ∃ l keep a, C.lps l = some (keep, a) ∧ Fit P C N s a ∧ ic = .loop l keep
  | .exit id, ic => ic = .exit id
  | .ret, ic => ic = .ret
  | .scope s, ic => ∃ a, Fit P C N s a ∧ ic = .scope a
  | .refuse _, ic => ic = stopIC
  | _, _ => False
def FitR (P : Program) : List ResultVar → List IRes → Prop
  | [], rs => rs = []
  | .tmp t :: r, rs => ∃ q, FitR P r q ∧ rs = .tmp t :: q
  | .cell a t :: r, rs => ∃ q x, ti P t = some x ∧ FitR P r q ∧ rs = .cell a x.size x.agg :: q
structure FitF (P : Program) (C : Code?) (f : FuncId) (fn : IFun) : Prop where
  ex : ∃ F code, P.funcs[f]? = some F ∧ (F.name == "runtime.NumGoroutine") = false ∧ F.body = some code ∧ F.ntmps = fn.n ∧ Fit P C fn.n code fn.body ∧ FitR P F.results.toList fn.results

/-! ### What is asked of the oracle -/
inductive DRel (ι : Inj) : List Dfr → List Deferred → Prop
  | nil : DRel ι [] []
  | cons {df : Dfr} {ds : List Dfr} {cap args : Array Value} {es : List Deferred} (h : LRel ι df.args (args ++ cap).toList) (t : DRel ι ds es) : DRel ι (df :: ds) ({ target := .fn (.func df.f) cap, args := args } :: es)
theorem DRel.mono {ι ι' : Inj} (hl : Inj.le ι ι') {a : List Dfr} {b : List Deferred} (h : DRel ι a b) : DRel ι' a b := by
  induction h with
  | nil => exact .nil
  | cons h _ ih => exact .cons (h.mono hl) ih
structure SR (cx : Cx) (N : Nat) (ι : Inj) (env : Env) (m : Mem) (d : List Dfr) (a : Act) (w : World) : Prop where
  rel : Rel cx ι m w
  env : ERel ι N env a.tmps
  dfr : DRel ι d a.defers
inductive XRel (ι : Inj) : Ex → Exit → Prop
  | normal : XRel ι .normal .normal
  | exit (id : Nat) : XRel ι (.exit id) (.exit id)
  | ret : XRel ι .ret .ret
  | panic {v v' : Value} (h : VRel ι v v') : XRel ι (.panic v) (.panic [{ v := v', recovered := false }])
def EnRel (ι : Inj) (o : Out) : Ending → Prop
  | .returned v' => o.x = .ret ∧ ∃ v, o.vals = [v] ∧ VRel ι v v'
  | .panicked ch => ∃ v v', o.x = .panic v ∧ ch = [{ v := v', recovered := false }] ∧ VRel ι v v'
  | .outgrown => False
def Goes (P : Program) (f : FuncId) (vs : Array Value) (w : World) (R : Ending → World → Prop) : Prop :=
  ((callFunc f vs).run P w = .ok (.enter f vs) w ∧ Calls P f vs w R) ∨ ∃ v w', (callFunc f vs).run P w = .ok (.value v) w' ∧ R (.returned v) w'
/-- A loop, at its head. -/
def lp (P : Program) (c : Code) (Q : Exit → Act → World → Prop) (a : Act) (w : World) : Prop :=
  ∀ (b : Frame) (k : List Item) (cs : List Frame), ∃ e a' w', Q e a' w' ∧ Arrives P (lone (b.at a (.code c :: .inLoop c :: k)) cs w) b k cs e a' w'
theorem lp_step {P : Program} {c : Code} {Q : Exit → Act → World → Prop} {a : Act} {w : World} (h : c.wp P (Exit.then (lp P c Q) Q) a w) : lp P c Q a w := by
  intro b k cs
  obtain ⟨e, a₁, w₁, hq, harr⟩ := h b (.inLoop c :: k) cs
  cases e with
  | normal =>
    obtain ⟨e₂, a₂, w₂, hq₂, harr₂⟩ := hq b k cs
    exact ⟨e₂, a₂, w₂, hq₂, .of_steps (Steps.trans harr (.one step_inLoop)) harr₂⟩
  | exit id => exact ⟨_, a₁, w₁, hq, .pass (x := .inLoop c) rfl (fun _ _ => .inl (by simp)) harr⟩
  | goto l => exact ⟨_, a₁, w₁, hq, .pass (x := .inLoop c) rfl (fun _ _ => .inl (by simp)) harr⟩
  | ret => exact ⟨_, a₁, w₁, hq, .pass (x := .inLoop c) rfl (fun _ _ => .inl (by simp)) harr⟩
  | panic ch => exact ⟨_, a₁, w₁, hq, .pass (x := .inLoop c) rfl (fun _ _ => .inl (by simp)) harr⟩
  | outgrown => exact ⟨_, a₁, w₁, hq, .pass (x := .inLoop c) rfl (fun _ _ => .inl (by simp)) harr⟩
theorem wp_of_lp {P : Program} {c : Code} {Q : Exit → Act → World → Prop} {a : Act} {w : World} (h : lp P c Q a w) : (Code.loop c).wp P Q a w :=
  fun b k cs => let ⟨e, a', w', q, r⟩ := h b k cs; ⟨e, a', w', q, .of_steps (.one step_loop) r⟩

/-- What a panic's mode is, and what it becomes where it was asked for. -/
def PanRel (ι : Inj) (pan : Option Value) (u : FrameMode) : Prop :=
  match pan with
  | none => u = .returning
  | some v => ∃ v', VRel ι v v' ∧ u = .panicking [{ v := v', recovered := false }]
def modeOf (pan : Option Value) (b : Bool) (u : FrameMode) : FrameMode :=
  match u with
  | .panicking [{ v := v, recovered := r, goexit := g }] => .panicking [{ v := v, recovered := b, goexit := g }]
  | u => u

structure OS (cx : Cx) (C : Code?) (O : Orc) : Prop where
  call : ∀ f args m out, O (.call f) args m [] = some out → ∀ ι w (vs : Array Value), Rel cx ι m w → LRel ι args vs.toList → Goes cx.P f vs w fun e w' => ∃ ι', Post cx ι m w ι' out.m w' ∧ EnRel ι' out e
  loop : ∀ l vals m d out, O (.loop l) vals m d = some out → ∀ keep ib, C.lps l = some (keep, ib) → ∀ N code, Fit cx.P C N code ib → ∀ ι a w, SR cx N ι (unpack keep vals) m d a w →
    ∀ Q : Exit → Act → World → Prop, (∀ ι' a' w' xr, Post cx ι m w ι' out.m w' → SR cx N ι' (unpack keep out.vals) out.m out.d a' w' → XRel ι' out.x xr → out.x ≠ .normal → Q xr a' w') → lp cx.P code Q a w
  dcall : ∀ f pan args m out, O (.dcall f pan) args m [] = some out → ∀ ι w (vs : Array Value), Rel cx ι m w → LRel ι args vs.toList → (callFunc f vs).run cx.P w = .ok (.enter f vs) w ∧ ∀ u, PanRel ι pan u →
    CallsD cx.P f vs u w fun e u' w' => ∃ ι' b, Post cx ι m w ι' out.m w' ∧ out.x = .ret ∧ out.vals = [.bool b] ∧ (∃ v, e = .returned v) ∧ u' = modeOf pan b u ∧ (b = true → pan ≠ none)

/-! ### Environments -/
theorem ERel.put {ι : Inj} {N : Nat} {env : Env} {a : Act} (h : ERel ι N env a.tmps) {dst : Option Nat} (hd : dst.all (· < N) = true) {v v' : Value} (hv : VRel ι v v') : ERel ι N (D.put env dst v) (a.put dst v').tmps := by
  cases dst with
  | none => exact h
  | some d =>
    simp only [Option.all_some, decide_eq_true_eq] at hd
    refine ⟨by simp [Act.put, h.size], fun t => ?_⟩
    simp only [D.put, Act.put]
    split
    · subst_vars
      have : t < a.tmps.size := by rw [h.size]; exact hd
      rw [Array.getD_eq_getD_getElem?, Array.getElem?_setIfInBounds_self_of_lt this]
      exact hv
    · rename_i hne
      rw [Array.getD_eq_getD_getElem?, Array.getElem?_setIfInBounds_ne (fun e => hne e.symm), ← Array.getD_eq_getD_getElem?]
      exact h.at_ t
theorem put_defers (a : Act) (dst : Option Nat) (v : Value) : (a.put dst v).defers = a.defers := by cases dst <;> rfl
theorem SR.put {cx : Cx} {N : Nat} {ι ι' : Inj} {env : Env} {m m' : Mem} {d : List Dfr} {a : Act} {w w' : World} (h : SR cx N ι env m d a w) (hp : Post cx ι m w ι' m' w') {dst : Option Nat} (hd : dst.all (· < N) = true) {v v' : Value} (hv : VRel ι' v v') :
    SR cx N ι' (D.put env dst v) m' d (a.put dst v') w' :=
  ⟨hp.rel, (h.env.mono hp.le).put hd hv, by rw [put_defers]; exact h.dfr.mono hp.le⟩
theorem ERel.weak {ι : Inj} {N : Nat} {env : Env} {tmps : Array Value} (h : ERel ι N env tmps) (keep : List Nat) : ERel ι N (unpack keep (keep.map env)) tmps := by
  refine ⟨h.size, fun t => ?_⟩
  have key : ∀ (ks pre : List Nat), VRel ι (unpackI ((pre ++ ks).map env) ks pre.length t) (tmps.getD t undef) := by
    intro ks
    induction ks with
    | nil => intro pre; exact .unk _
    | cons k ks ih =>
      intro pre
      simp only [unpackI]
      split
      · subst_vars
        simp only [List.getD_eq_getElem?_getD, List.map_append, List.map_cons]
        rw [List.getElem?_append_right (by simp)]
        simpa using h.at_ _
      · have := ih (pre ++ [k])
        simpa using this
  exact key keep []

/-! ### One operation -/
theorem guard_wanted {ι : Inj} {N : Nat} {env : Env} {a : Act} (h : ERel ι N env a.tmps) {ops : Array Oper} {o : Oper} {j t : Nat} {want c : Bool} (hg : o.guard = some (j, want)) (ht : (ops[j]?).bind (·.dst) = some t) (hc : bool? (env t) = some c) :
    Region.wanted o (yielded ops a.tmps) = (c == want) := by
  unfold Region.wanted
  rw [hg]
  simp only
  unfold yielded
  rw [ht]
  have hr := h.at_ t
  rw [bool?_some hc] at hr
  have hv := hr.of_bool
  have : a.tmps[t]? = some (.bool c) := by
    rw [Array.getD_eq_getD_getElem?] at hv
    cases hq : a.tmps[t]? with
    | none => rw [hq] at hv; simp [undef] at hv
    | some x => rw [hq] at hv; simp at hv; rw [hv]
  simp only [Option.bind_some, this]
  cases c <;> cases want <;> rfl
theorem goes_upon {P : Program} {o : Oper} {a : Act} {w : World} {f : FuncId} {vs : Array Value} {R : Ending → World → Prop} {next : Act → World → Prop} {Q : Exit → Act → World → Prop} (hrun : (execOp a.eval o).run P w = (callFunc f vs).run P w) (h : Goes P f vs w R)
    (h1 : ∀ v w', R (.returned v) w' → next (a.put o.dst v) w') (h2 : ∀ ch w', R (.panicked ch) w' → Q (.panic ch) a w') (h3 : ∀ w', ¬ R .outgrown w') : o.wp P a w next Q := by
  unfold Oper.wp
  rw [hrun]
  rcases h with ⟨he, hc⟩ | ⟨v, w', he, hr⟩
  · rw [he, Oper.upon_enter]
    refine hc.mono fun e w'' hh => ?_
    cases e with
    | returned v => exact h1 _ _ hh
    | panicked ch => exact h2 _ _ hh
    | outgrown => exact absurd hh (h3 _)
  · rw [he]
    exact h1 _ _ hr
/-- What goes on behind a part. -/
def KS (cx : Cx) (N : Nat) (ι : Inj) (m : Mem) (w : World) (k : Kont) (r : Out) (Q : Exit → Act → World → Prop) : Prop :=
  ∀ x env' m' d' ι' a' w' xr, k x env' m' d' = some r → Post cx ι m w ι' m' w' → SR cx N ι' env' m' d' a' w' → XRel ι' x xr → Q xr a' w'
theorem KS.step {cx : Cx} {N : Nat} {ι ι' : Inj} {m m' : Mem} {w w' : World} {k : Kont} {r : Out} {Q : Exit → Act → World → Prop} (h : KS cx N ι m w k r Q) (hr : Rel cx ι m w) (hp : Post cx ι m w ι' m' w') : KS cx N ι' m' w' k r Q :=
  fun x env' m2 d' ι2 a' w2 xr hk hp2 hs hx => h x env' m2 d' ι2 a' w2 xr hk (hp.trans hp2 hr) hs hx

theorem eval_list {ι : Inj} {N : Nat} {env : Env} {a : Act} (h : ERel ι N env a.tmps) (as : Array Operand) : LRel ι (as.toList.map (aev env)) (as.map a.eval).toList := by
  simpa using lrel h as.toList

theorem thenK_sound {cx : Cx} {C : Code?} {O : Orc} (hO : OS cx C O) {N : Nat} {ι : Inj} {env : Env} {m : Mem} {d : List Dfr} {a : Act} {w : World} {o : Oper} {k : Kont} {r : Out} {Q2 Q : Exit → Act → World → Prop} {next : Act → World → Prop}
    (hs : SR cx N ι env m d a w) (hd : o.dst.all (· < N) = true) (hk : KS cx N ι m w k r Q2) (hn : ∀ a w, Q2 .normal a w → next a w) (hq : ∀ ch a w, Q2 (.panic ch) a w → Q (.panic ch) a w) {f : FuncId} {args : List Value} {vs : Array Value} (hrun : (execOp a.eval o).run cx.P w = (callFunc f vs).run cx.P w) (hl : LRel ι args vs.toList)
    (h : ((O (.call f) args m []).bind fun out => thenK out o.dst env d k) = some r) : o.wp cx.P a w next Q := by
  cases ho : O (.call f) args m [] with
  | none => rw [ho] at h; cases h
  | some out =>
    rw [ho] at h
    simp only [Option.bind_some] at h
    refine goes_upon hrun (hO.call f args m out ho ι w vs hs.rel hl) ?_ ?_ ?_
    · rintro v w' ⟨ι', hp, hx, u, hu, hv⟩
      unfold thenK at h
      rw [hx] at h
      simp only [hu, List.head?_cons, Option.bind_some] at h
      exact hn _ _ (hk _ _ _ _ ι' _ w' _ h hp (hs.put hp hd hv) .normal)
    · rintro ch w' ⟨ι', hp, u, u', hx, rfl, hv⟩
      unfold thenK at h
      rw [hx] at h
      exact hq _ _ _ (hk _ _ _ _ ι' _ w' _ h hp ⟨hp.rel, hs.env.mono hp.le, hs.dfr.mono hp.le⟩ (.panic hv))
    · rintro w' ⟨ι', hp, hf⟩
      exact hf
theorem evOp1_sound {cx : Cx} {C : Code?} {O : Orc} (hO : OS cx C O) {N : Nat} {ι : Inj} {env : Env} {m : Mem} {d : List Dfr} {a : Act} {w : World} {o : Oper} {op : IOp} {k : Kont} {r : Out} {Q2 Q : Exit → Act → World → Prop} {next : Act → World → Prop}
    (hs : SR cx N ι env m d a w) (hd : o.dst.all (· < N) = true) (hc : compOp cx.P o.type o.op = some op) (h : evOp1 O op o.dst env m d k = some r) (hk : KS cx N ι m w k r Q2) (hn : ∀ a w, Q2 .normal a w → next a w) (hq : ∀ ch a w, Q2 (.panic ch) a w → Q (.panic ch) a w) :
    o.wp cx.P a w next Q := by
  unfold compOp at hc
  split at hc
  · rename_i f as ts heq
    cases hc
    refine thenK_sound hO hs hd hk hn hq ?_ (eval_list hs.env as) h
    unfold execOp
    rw [heq]
    simp [resolve, Act.eval, Deferred.ofValue, invoke, bind, Sem.bind, pure]
  · rename_i t as ts heq
    cases hc
    simp only [evOp1] at h
    cases hf : fn? (aev env (.tmp t)) with
    | none => rw [hf] at h; cases h
    | some c =>
      rw [hf] at h
      simp only [Option.bind_some] at h
      have hv := hs.env.ev (.tmp t)
      have hsh : ∃ f x y, aev env (.tmp t) = .func (.func f) x y ∧ c = (f, x.toList, y.toList) := by
        unfold fn? at hf
        split at hf
        · cases hf; exact ⟨_, _, _, by assumption, rfl⟩
        · cases hf
      obtain ⟨f, x, y, he, rfl⟩ := hsh
      rw [he] at hv
      obtain ⟨x', y', e, p1, p2, p3, p4⟩ := hv.of_func
      refine thenK_sound hO hs hd hk hn hq (vs := x' ++ as.map a.eval ++ y') ?_ ?_ h
      · unfold execOp
        rw [heq]
        simp [resolve, e, Deferred.ofValue, invoke, bind, Sem.bind, pure]
      · have h1 := lrel_of_arr p1 p2
        have h2 := lrel_of_arr p3 p4
        have h3 := eval_list hs.env as
        simpa using (h1.append h3).append h2
  · rename_i x as ts heq
    cases hc
    simp only [evOp1] at h
    cases hf : fn? (aev env x) with
    | none => rw [hf] at h; cases h
    | some c =>
      rw [hf] at h
      simp only [Option.bind_some] at h
      have hv := hs.env.ev x
      have hsh : ∃ f p q, aev env x = .func (.func f) p q ∧ c = (f, p.toList, q.toList) := by
        unfold fn? at hf
        split at hf
        · cases hf; exact ⟨_, _, _, by assumption, rfl⟩
        · cases hf
      obtain ⟨f, p, q, he, rfl⟩ := hsh
      rw [he] at hv
      obtain ⟨p', q', e, p1, p2, p3, p4⟩ := hv.of_func
      have hrun : (execOp a.eval o).run cx.P w = .ok (.defer { target := .fn (.func f) q', args := p' ++ as.map a.eval }) w := by
        unfold execOp
        rw [heq]
        simp [resolve, e, Deferred.ofValue, bind, Sem.bind, pure, Sem.run]
      unfold Oper.wp
      rw [hrun, Oper.upon_defer]
      refine hn _ _ (hk _ _ _ _ ι _ w _ h (.refl hs.rel) ⟨hs.rel, ?_, ?_⟩ .normal)
      · exact ERel.put (a := { tmps := a.tmps, defers := { target := .fn (.func f) q', args := p' ++ as.map a.eval } :: a.defers }) hs.env hd (.unk undef)
      · rw [put_defers]
        refine DRel.cons (df := ⟨f, p.toList ++ as.toList.map (aev env) ++ q.toList⟩) ?_ hs.dfr
        have h1 := lrel_of_arr p1 p2
        have h2 := lrel_of_arr p3 p4
        have h3 := eval_list hs.env as
        simpa using (h1.append h3).append h2
  · rename_i x heq
    cases hc
    simp only [evOp1] at h
    split at h
    · rename_i t v he
      have hv := hs.env.ev x
      rw [he] at hv
      obtain ⟨v', e, hv'⟩ := hv.of_iface
      have hrun : (execOp a.eval o).run cx.P w = .halt (.panic (.iface t v')) w := by
        unfold execOp
        rw [heq]
        simp only [e]
        rfl
      unfold Oper.wp
      rw [hrun, Oper.upon_panic]
      exact hq _ _ _ (hk _ _ _ _ ι _ w _ h (.refl hs.rel) hs (.panic (.iface hv')))
    · cases h
  · cases hc; cases h
  · cases hp : compileP cx.P o.type o.op with
    | none => rw [hp] at hc; cases hc
    | some p =>
      rw [hp] at hc
      cases hc
      simp only [evOp1] at h
      cases hv : aop p (aev env) m with
      | none => rw [hv] at h; cases h
      | some v =>
        rw [hv] at h
        simp only [Option.bind_some] at h
        obtain ⟨ι', nx, v', w', r1, r2, r3, r4⟩ := aop_sound hs.rel hs.env hp hv
        unfold Oper.wp
        rw [r1]
        rcases r2 with rfl | ⟨rfl, rfl⟩
        · rw [Oper.upon_value]
          exact hn _ _ (hk _ _ _ _ ι' _ w' _ h r3 (hs.put r3 hd r4) .normal)
        · rw [Oper.upon_skip]
          exact hn _ _ (hk _ _ _ _ ι' _ w' _ h r3 (hs.put r3 hd r4) .normal)
theorem compO_spec {P : Program} {N : Nat} {ops : Array Oper} {o : Oper} {io : IOper} (h : compO P N ops o = some io) :
    compGuard ops o.guard = some io.guard ∧ compOp P o.type o.op = some io.op ∧ io.dst = o.dst ∧ o.dst.all (· < N) = true := by
  unfold compO at h
  split at h
  · split at h
    · cases h; exact ⟨by assumption, by assumption, rfl, by assumption⟩
    · cases h
  · cases h
def gok : List (Nat × Bool) → Env → Option Bool
  | [], env => some true
  | (t, want) :: r, env => (bool? (env t)).bind fun c => if c = want then gok r env else (match r.getLast? with | none => some false | some q => if isGone (env q.1) = true then some false else none)
theorem guarded_gok : ∀ {g : List (Nat × Bool)} {env : Env} {a b : Option Out} {r : Out}, guarded g env a b = some r → (gok g env = some true ∧ a = some r) ∨ (gok g env = some false ∧ b = some r) := by
  intro g
  induction g with
  | nil => intro env a b r h; exact .inl ⟨rfl, h⟩
  | cons p t ih =>
    intro env a b r h
    obtain ⟨x, want⟩ := p
    unfold guarded at h
    unfold gok
    cases hb : bool? (env x) with
    | none => rw [hb] at h; cases h
    | some c =>
      rw [hb] at h
      simp only [Option.bind_some] at h ⊢
      split at h
      · rw [if_pos ‹_›]; exact ih h
      · rw [if_neg ‹_›]
        cases hl : t.getLast? with
        | none => rw [hl] at h; exact .inr ⟨rfl, h⟩
        | some q =>
          rw [hl] at h
          simp only at h ⊢
          split at h
          · rw [if_pos ‹_›]; exact .inr ⟨rfl, h⟩
          · cases h
theorem chain_last {ops : Array Oper} : ∀ {n : Nat} {j : Nat} {want : Bool} {l : List (Nat × Bool)}, chain ops n (j, want) = some l → ∃ t l', (ops[j]?).bind (·.dst) = some t ∧ l = l' ++ [(t, want)] := by
  intro n
  cases n with
  | zero => intro j want l h; cases h
  | succ n =>
    intro j want l h
    unfold chain at h
    cases ht : (ops[j]?).bind (·.dst) with
    | none => rw [ht] at h; cases h
    | some t =>
      rw [ht] at h
      simp only [Option.bind_some] at h
      refine ⟨t, ?_⟩
      split at h
      · cases h; exact ⟨[], rfl, rfl⟩
      · rename_i g _
        cases hc : chain ops n g with
        | none => rw [hc] at h; cases h
        | some l0 => rw [hc] at h; cases h; exact ⟨l0, rfl, rfl⟩
theorem gok_last {env : Env} {t : Nat} {want b : Bool} : ∀ {l : List (Nat × Bool)}, gok (l ++ [(t, want)]) env = some b → (∃ c, bool? (env t) = some c ∧ b = (c == want)) ∨ (b = false ∧ isGone (env t) = true) := by
  intro l
  induction l with
  | nil =>
    intro h
    simp only [List.nil_append, gok] at h
    cases hb : bool? (env t) with
    | none => rw [hb] at h; cases h
    | some c =>
      rw [hb] at h
      refine .inl ⟨c, rfl, ?_⟩
      simp only [Option.bind_some, List.getLast?_nil] at h
      split at h
      · cases h; simp_all
      · cases h; cases c <;> cases want <;> simp_all
  | cons p r ih =>
    intro h
    obtain ⟨x, w⟩ := p
    simp only [List.cons_append, gok] at h
    cases hb : bool? (env x) with
    | none => rw [hb] at h; cases h
    | some c =>
      rw [hb] at h
      simp only [Option.bind_some] at h
      split at h
      · exact ih h
      · simp only [List.getLast?_append, List.getLast?_singleton, Option.some_or] at h
        split at h
        · cases h; exact .inr ⟨rfl, by assumption⟩
        · cases h
theorem gok_wanted {ι : Inj} {N : Nat} {os : Array Oper} {env : Env} {a : Act} (h : ERel ι N env a.tmps) {o : Oper} {g : List (Nat × Bool)} {b : Bool} (hg : compGuard os o.guard = some g) (hv : gok g env = some b) : Region.wanted o (yielded os a.tmps) = b := by
  unfold compGuard at hg
  cases hq : o.guard with
  | none =>
    rw [hq] at hg
    cases hg
    cases hv
    simp [Region.wanted, hq]
  | some p =>
    obtain ⟨j, want⟩ := p
    rw [hq] at hg
    obtain ⟨t, l', ht, rfl⟩ := chain_last hg
    rcases gok_last hv with ⟨c, hb, rfl⟩ | ⟨rfl, hb⟩
    · exact guard_wanted h hq ht hb
    · have hr := h.at_ t
      have he : ∃ n, env t = .chan (some n) := by
        unfold isGone at hb
        split at hb
        · exact ⟨_, by assumption⟩
        · cases hb
      obtain ⟨n, he⟩ := he
      rw [he] at hr
      have hv := hr.of_gone
      unfold Region.wanted
      rw [hq]
      simp only
      unfold yielded
      rw [ht]
      simp only [Option.bind_some]
      rw [Array.getD_eq_getD_getElem?] at hv
      cases hx : a.tmps[t]? with
      | none => rfl
      | some x => rw [hx] at hv; simp at hv; rw [hv]; rfl
theorem guard_cases {ι : Inj} {N : Nat} {env : Env} {a : Act} (h : ERel ι N env a.tmps) {ops : Array Oper} {o : Oper} {g : List (Nat × Bool)} (hg : compGuard ops o.guard = some g) {x y : Option Out} {r : Out} (hv : guarded g env x y = some r) :
    (Region.wanted o (yielded ops a.tmps) = true ∧ x = some r) ∨ (Region.wanted o (yielded ops a.tmps) = false ∧ y = some r) := by
  rcases guarded_gok hv with ⟨h1, h2⟩ | ⟨h1, h2⟩
  · exact .inl ⟨gok_wanted h hg h1, h2⟩
  · exact .inr ⟨gok_wanted h hg h1, h2⟩
theorem evOps_sound {cx : Cx} {C : Code?} {O : Orc} (hO : OS cx C O) {N : Nat} {os : Array Oper} {Q : Exit → Act → World → Prop} {r : Out} : ∀ {l : List Oper} {ops : List IOper} {ι : Inj} {env : Env} {m : Mem} {d : List Dfr} {a : Act} {w : World} {k : Kont},
    compL cx.P N os l = some ops → SR cx N ι env m d a w → evOps O ops env m d k = some r → KS cx N ι m w k r Q → wpList cx.P os Q l a w := by
  intro l
  induction l with
  | nil =>
    intro ops ι env m d a w k hc hs h hk
    cases hc
    exact hk _ _ _ _ ι a w _ h (.refl hs.rel) hs .normal
  | cons o t ih =>
    intro ops ι env m d a w k hc hs h hk
    unfold compL at hc
    split at hc
    · rename_i x l' h1 h2
      cases hc
      obtain ⟨c1, c2, c3, c4⟩ := compO_spec h1
      unfold wpList
      simp only [evOps] at h
      unfold evOp at h
      have hkk : KS cx N ι m w (fun x env m d => match x with | .normal => evOps O l' env m d k | x => k x env m d) r (fun e a w => match e with | .normal => wpList cx.P os Q t a w | e => Q e a w) := by
        intro x env' m' d' ι' a' w' xr hkx hp hs' hx
        cases hx with
        | normal => exact ih h2 hs' hkx (hk.step hs.rel hp)
        | exit id => exact hk _ _ _ _ ι' a' w' _ hkx hp hs' (.exit id)
        | ret => exact hk _ _ _ _ ι' a' w' _ hkx hp hs' .ret
        | panic hv => exact hk _ _ _ _ ι' a' w' _ hkx hp hs' (.panic hv)
      rcases guard_cases hs.env c1 h with ⟨g1, g2⟩ | ⟨g1, g2⟩
      · rw [if_pos g1]
        refine .inl ?_
        rw [c3] at g2
        exact evOp1_sound (next := wpList cx.P os Q t) hO hs c4 c2 g2 hkk (fun a w h => h) (fun ch a w h => h)
      · rw [if_neg (by rw [g1]; simp)]
        rw [c3] at g2
        exact ih h2 (hs.put (.refl hs.rel) c4 .gone) g2 hk
    · cases hc
end Go.Proofs.Ytjojfpmelhaknaa.D
