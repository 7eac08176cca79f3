/-
  A second reading above the first: slices and pointers whose content is fixed are values; a call of a marked function leaves no memory.
-/
import Derived.Test.YtjojfpmelhaknaaD21
namespace Go.Proofs.Ytjojfpmelhaknaa.D
open Go.RowKit
set_option linter.unusedVariables false
set_option linter.unusedSimpArgs false

/-! ### Fixed slices, fixed pointers -/
def FZS : TypeId := 4000000001
def FZP : TypeId := 4000000002
def tagged (t : TypeId) : Bool := t == FZS || t == FZP
/-- A slice that is never written again: the size of its elements, whether its capacity is its length, its elements. -/
def fz (sz : Nat) (tt : Bool) (els : List (List Value)) : Value := .iface FZS (.tuple #[.int .i64 sz, .bool tt, .agg (els.map fun e => Value.agg e.toArray).toArray])
/-- A pointer into cells that are never written again. -/
def fp (cells : List Value) (off : Nat) : Value := .iface FZP (.tuple #[.int .i64 off, .agg cells.toArray])
def fz? (v : Value) : Option (Nat × Bool × List (List Value)) :=
  match v with
  | .iface t (.tuple a) => if t = FZS then (match a.toList with | [.int _ s, .bool b, .agg e] => some (s.toNat, b, e.toList.map fun x => x.cells.toList) | _ => none) else none
  | _ => none
def fp? (v : Value) : Option (List Value × Nat) :=
  match v with
  | .iface t (.tuple a) => if t = FZP then (match a.toList with | [.int _ o, .agg e] => some (e.toList, o.toNat) | _ => none) else none
  | _ => none
@[simp] theorem fz?_fz (sz : Nat) (tt : Bool) (els : List (List Value)) : fz? (fz sz tt els) = some (sz, tt, els) := by
  unfold fz? fz
  simp only [if_true, List.map_map]
  congr 3
  rw [show (fun x : Value => x.cells.toList) ∘ (fun e : List Value => Value.agg e.toArray) = id from rfl]
  simp
@[simp] theorem fp?_fp (cells : List Value) (off : Nat) : fp? (fp cells off) = some (cells, off) := by
  unfold fp? fp
  simp
theorem FZSP : ¬ FZP = FZS := by decide
theorem FZPS : ¬ FZS = FZP := by decide
@[simp] theorem fz?_fp (cells : List Value) (off : Nat) : fz? (fp cells off) = none := by unfold fz? fp; simp only [if_neg FZSP]
@[simp] theorem fp?_fz (sz : Nat) (tt : Bool) (els : List (List Value)) : fp? (fz sz tt els) = none := by unfold fp? fz; simp only [if_neg FZPS]
theorem fz?_iface {v : Value} {x : Nat × Bool × List (List Value)} (h : fz? v = some x) : ∃ u, v = .iface FZS u := by
  unfold fz? at h
  split at h
  · split at h
    · subst_vars; exact ⟨_, rfl⟩
    · cases h
  · cases h
theorem fp?_iface {v : Value} {x : List Value × Nat} (h : fp? v = some x) : ∃ u, v = .iface FZP u := by
  unfold fp? at h
  split at h
  · split at h
    · subst_vars; exact ⟨_, rfl⟩
    · cases h
  · cases h
@[simp] theorem fz?_slice (a : Option Addr) (n c : Nat) : fz? (.slice a n c) = none := rfl
@[simp] theorem fp?_slice (a : Option Addr) (n c : Nat) : fp? (.slice a n c) = none := rfl
@[simp] theorem fz?_ptr (a : Option Addr) : fz? (.pointer a) = none := rfl
@[simp] theorem fp?_ptr (a : Option Addr) : fp? (.pointer a) = none := rfl
@[simp] theorem fz?_str (a : ByteArray) : fz? (.string a) = none := rfl
@[simp] theorem fp?_str (a : ByteArray) : fp? (.string a) = none := rfl
@[simp] theorem fz?_int (k : IntKind) (a : Int) : fz? (.int k a) = none := rfl
@[simp] theorem fp?_int (k : IntKind) (a : Int) : fp? (.int k a) = none := rfl
@[simp] theorem fz?_func (f : Fn) (a b : Array Value) : fz? (.func f a b) = none := rfl
@[simp] theorem fp?_func (f : Fn) (a b : Array Value) : fp? (.func f a b) = none := rfl
@[simp] theorem fz?_nilf : fz? .nilFunc = none := rfl
@[simp] theorem fp?_nilf : fp? .nilFunc = none := rfl
@[simp] theorem fz?_nili : fz? .nilIface = none := rfl
@[simp] theorem fp?_nili : fp? .nilIface = none := rfl
@[simp] theorem known_fz (sz : Nat) (tt : Bool) (els : List (List Value)) : known (fz sz tt els) = true := rfl
@[simp] theorem known_fp (cells : List Value) (off : Nat) : known (fp cells off) = true := rfl
@[simp] theorem cells_fz (sz : Nat) (tt : Bool) (els : List (List Value)) : (fz sz tt els).cells = #[fz sz tt els] := rfl
@[simp] theorem cells_fp (cells : List Value) (off : Nat) : (fp cells off).cells = #[fp cells off] := rfl
@[simp] theorem slc?_fz (sz : Nat) (tt : Bool) (els : List (List Value)) : slc? (fz sz tt els) = none := rfl
@[simp] theorem addr?_fp (cells : List Value) (off : Nat) : addr? (fp cells off) = none := rfl

/-! ### Operations -/
def vLenL (x : Value) : Option Value := match fz? x with | some (_, _, els) => some (.int .i64 els.length) | none => aLenL x
def vLd (n : Nat) (g : Bool) (x : Value) (m : Mem) : Option Value := match fp? x with | some (cs, off) => aPart g n off cs | none => aLd n g x m
def vCheck (x : Value) : Option Value := match fp? x with | some _ => some x | none => aCheck x
def vNil (k : NK) (x : Value) : Option Bool :=
  match k with
  | .ptr => if (fp? x).isSome = true then some false else aNil .ptr x
  | .slc => if (fz? x).isSome = true then some false else aNil .slc x
  | .ifc => if (fp? x).isSome = true then none else if (fz? x).isSome = true then none else aNil .ifc x
  | .fn => aNil .fn x
def vIsNil (k : NK) (neg : Bool) (x : Value) : Option Value := (vNil k x).bind fun b => some (.bool (if neg then !b else b))
def vIdx (sz : Nat) (x i : Value) : Option Value :=
  match fz? x with
  | some (s, _, els) => if s = sz then (int? i).bind fun (_, j) => if 0 ≤ j then (els[j.toNat]?).map fun e => fp e 0 else none else none
  | none => aIdx sz x i
def vIdxArr (n sz : Nat) (x i : Value) : Option Value :=
  match fp? x with
  | some (cs, off) => (int? i).bind fun (_, j) => if 0 ≤ j then (if j < n then some (fp cs (off + j.toNat * sz)) else none) else none
  | none => aIdxArr n sz x i
def vFieldAddr (off : Nat) (x : Value) : Option Value := match fp? x with | some (cs, o) => some (fp cs (o + off)) | none => aFieldAddr off x
def vCut (sz : Nat) (x : Value) (lo hi : Option Value) (m : Mem) : Option Value :=
  match fz? x with
  | some (s, tt, els) => if s = sz then (aHi hi els.length).bind fun h => (aLo lo h).bind fun l => some (fz sz (tt && h == els.length) ((els.take h).drop l)) else none
  | none => aCut sz x lo hi m
def vCut3 (sz : Nat) (x : Value) (lo hi mx : Option Value) (m : Mem) : Option Value :=
  match fz? x with
  | some (s, tt, els) => if s = sz then (aHi mx els.length).bind fun mm => (aHi hi mm).bind fun h => (aLo lo h).bind fun l => some (fz sz (h == mm) ((els.take h).drop l)) else none
  | none => aCut3 sz x lo hi mx m
def vSrc (str : Bool) (sz : Nat) (y : Value) (m : Mem) : Option (Nat × List Value) :=
  match str with
  | true => aSrc true sz y m
  | false => match fz? y with | some (s, _, els) => if s = sz then some (els.length, els.flatten) else none | none => aSrc false sz y m
def vApp (str : Bool) (sz bytes : Nat) (x y : Value) (m : Mem) : Option (Value × Mem) :=
  (vSrc str (unit sz) y m).bind fun (k, l) => match fz? x with
    | some (s, tt, els) => if k = 0 then some (x, m) else if (els.length + k) * bytes ≤ 274877906944 ∧ els.length + k ≤ 1099511627776 then (if s = unit sz ∧ tt = true then some (.slice (some ⟨m.next, 0, none⟩) (els.length + k) (els.length + k + 1), m.push ⟨sz, els.flatten ++ l⟩) else none) else none
    | none => (slc? x).bind fun
      | .nil => if k = 0 then some (x, m) else if k * bytes ≤ 274877906944 ∧ k ≤ 1099511627776 then some (.slice (some ⟨m.next, 0, none⟩) k (k + 1), m.push ⟨sz, l⟩) else none
      | .at_ o off n c =>
        if k = 0 then some (x, m)
        else if (n + k) * bytes ≤ 274877906944 ∧ n + k ≤ 1099511627776 then
          (if c = n then (m.at_ o off (n * unit sz)).bind fun l0 => some (.slice (some ⟨m.next, 0, none⟩) (n + k) (n + k + 1), m.push ⟨sz, l0 ++ l⟩)
           else (m.get o).bind fun r => if m.lo ≤ o ∧ r.sz = sz ∧ off + n * unit sz = r.cells.length then some (.slice (some ⟨m.next, 0, none⟩) (n + k) (n + k + 1), (m.del o).push ⟨sz, r.cells.drop off ++ l⟩) else none)
        else none
def vStr (x : Value) (m : Mem) : Option Value :=
  match fz? x with
  | some (s, _, els) => if s = 1 then (u8s els.flatten).bind fun ns => some (.string (strOf ns)) else none
  | none => aStr x m
def isTag (x : Value) : Bool := match x with | .iface t _ => tagged t | _ => false
def vAssert (t : TypeId) (ok : Bool) (z x : Value) : Option Value := if isTag x = true then none else aAssert t ok z x
def vIface (t : TypeId) (x : Value) : Option Value := if tagged t = true then none else some (.iface t x)
@[simp] theorem vIface_ok {t : TypeId} (h : tagged t = false) (x : Value) : vIface t x = some (.iface t x) := by unfold vIface; rw [h]; rfl

/-- Has a value no live places? -/
def clo : Nat → Value → Bool
  | 0, _ => false
  | k + 1, v =>
    match v with
    | .agg a => a.toList.all (clo k)
    | .iface t u => tagged t || clo k u
    | .func _ a b => a.toList.all (clo k) && b.toList.all (clo k)
    | v => base v
def FUEL : Nat := 24
def chunk (sz : Nat) : Nat → List Value → List (List Value)
  | 0, _ => []
  | n + 1, l => l.take sz :: chunk sz n (l.drop sz)
/-- A slice with its elements: fixed at once, if they have no live places. -/
def vLit (sz len : Nat) (z : List Value) (parts : List (Nat × Value)) (m : Mem) : Option (Value × Mem) :=
  if len * unit sz ≤ 16777216 then (fillL (fun i => if i < len then some (i * unit sz, unit sz) else none) (zerosL z len) parts).bind fun l =>
    if (l.length == len * unit sz && l.all (clo FUEL)) = true then some (fz (unit sz) true (chunk (unit sz) len l), m) else some (.slice (some ⟨m.next, 0, none⟩) len len, m.push ⟨sz, l⟩) else none
def vop (p : POp) (ρ : Operand → Value) (m : Mem) : Option (Value × Mem) :=
  match p with
  | .load n g a => only m (vLd n g (ρ a) m)
  | .lit sz n z parts => vLit sz n z (parts.map fun p => (p.1, ρ p.2)) m
  | .nilCheck x => only m (vCheck (ρ x))
  | .isNil k neg x => only m (vIsNil k neg (ρ x))
  | .toStr x => only m (vStr (ρ x) m)
  | .iface t x => only m (vIface t (ρ x))
  | .cut sz x lo hi => only m (vCut sz (ρ x) (lo.map ρ) (hi.map ρ) m)
  | .cut3 sz x lo hi mx => only m (vCut3 sz (ρ x) (lo.map ρ) (hi.map ρ) (mx.map ρ) m)
  | .fieldAddr off x => only m (vFieldAddr off (ρ x))
  | .idx sz x i => only m (vIdx sz (ρ x) (ρ i))
  | .idxArr n sz x i => only m (vIdxArr n sz (ρ x) (ρ i))
  | .assert t ok z x => only m (vAssert t ok z (ρ x))
  | .len s x => only m (match s with | true => aLenS (ρ x) | false => vLenL (ρ x))
  | .app s sz b x y => vApp s sz b (ρ x) (ρ y) m
  | p => aop p ρ m
/-- What the zeros of an operation must be. -/
def okP : POp → Bool
  | .new _ z => z.all base
  | .build _ z _ => z.all base
  | .lit _ _ z _ => z.all base
  | .make _ _ z _ _ => z.all base
  | .assert _ _ z _ => constOk z
  | _ => true
def okO (o : IOper) : Bool := match o.op with | .plain p => okP p | _ => true
def okC : IC → Bool
  | .region ops => ops.all okO
  | .draws ops => ops.all fun x => okO x.1
  | .seq a b => okC a && okC b
  | .cut _ a b => okC a && okC b
  | .cond _ t e => okC t && okC e
  | .block _ b => okC b
  | .scope b => okC b
  | _ => true

/-! ### All of it -/
def evOp1V (O : Orc) (op : IOp) (dst : Option Nat) (env : Env) (m : Mem) (d : List Dfr) (k : Kont) : Option Out :=
  match op with
  | .plain p => (vop p (aev env) m).bind fun r => k .normal (put env dst r.1) r.2 d
  | .call f as => (O (.call f) (as.map (aev env)) m []).bind fun o => thenK o dst env d k
  | .callV x as => (fn? (aev env x)).bind fun c => (O (.call c.1) (c.2.1 ++ as.map (aev env) ++ c.2.2) m []).bind fun o => thenK o dst env d k
  | .dfr x as => (fn? (aev env x)).bind fun c => k .normal (put env dst undef) m (⟨c.1, c.2.1 ++ as.map (aev env) ++ c.2.2⟩ :: d)
  | .panic x => match aev env x with
    | .iface t v => if tagged t = true then none else k (.panic (.iface t v)) env m d
    | _ => none
  | .recover => none
def evOpV (O : Orc) (o : IOper) (env : Env) (m : Mem) (d : List Dfr) (k : Kont) : Option Out :=
  guarded o.guard env (evOp1V O o.op o.dst env m d k) (k .normal (put env o.dst gone) m d)
def evOpsV (O : Orc) : List IOper → Env → Mem → List Dfr → Kont → Option Out
  | [], env, m, d, k => k .normal env m d
  | o :: t, env, m, d, k => evOpV O o env m d fun x env m d => match x with | .normal => evOpsV O t env m d k | x => k x env m d
def qOp1V (O : Orc) (op : IOp) (env : Env) (m : Mem) : Option (Value × Mem) :=
  match op with
  | .plain p => vop p (aev env) m
  | .call f as => (O (.call f) (as.map (aev env)) m []).bind fun o => match o.x with | .ret => (o.vals.head?).bind fun v => some (v, o.m) | _ => none
  | .callV x as => (fn? (aev env x)).bind fun c => (O (.call c.1) (c.2.1 ++ as.map (aev env) ++ c.2.2) m []).bind fun o => match o.x with | .ret => (o.vals.head?).bind fun v => some (v, o.m) | _ => none
  | _ => none
def qRunV (O : Orc) (o : IOper) (q : QK) (env : Env) (m : Mem) : Option (Value × Mem) :=
  match q with
  | .quiet => (qOp1V O o.op env (m.floor m.next)).map fun r => (r.1, r.2.floor m.lo)
  | _ => qOp1V O o.op env m
/-- What was read is still there. -/
def chk1V (n0 : Nat) (x : Option Value) (v : Value) : Bool := match x with | some u => eqv n0 u v | none => false
def chksV (n0 : Nat) (l : List (IOper × List Nat)) (env : Env) (m : Mem) : Bool :=
  l.all fun c => match c.1.op with | .plain (.load n g a) => chk1V n0 (vLd n g (aev (mask c.2 env) a) m) (env (c.1.dst.getD 0)) | _ => false
def qDoV (O : Orc) (n0 : Nat) (o : IOper) (rs : List Nat) (q : QK) (env : Env) (m : Mem) (k : Env → Mem → Option Out) (kp : Value → Mem → Option Out) : Option Out :=
  match q with
  | .lone pan chk => (match qOp1V O o.op (mask rs env) m with
    | some r => if chksV n0 chk (put env o.dst r.1) r.2 = true then k (put env o.dst r.1) r.2 else none
    | none => if pan = true then (qPan1 O o.op (mask rs env) m).bind fun r => kp r.1 r.2 else none)
  | q => (qRunV O o q (mask rs env) m).bind fun r => k (put env o.dst r.1) r.2
def qOpV (O : Orc) (n0 : Nat) (o : IOper) (rs : List Nat) (q : QK) (env : Env) (m : Mem) (k : Env → Mem → Option Out) (kp : Value → Mem → Option Out) : Option Out :=
  guarded o.guard (mask rs env) (qDoV O n0 o rs q env m k kp) (k (put env o.dst gone) m)
def qOpsV (O : Orc) (n0 : Nat) : List (IOper × List Nat × QK) → Env → Mem → (Env → Mem → Option Out) → (Value → Mem → Option Out) → Option Out
  | [], env, m, k, _ => k env m
  | o :: t, env, m, k, kp => qOpV O n0 o.1 o.2.1 o.2.2 env m (fun env m => qOpsV O n0 t env m k kp) kp
def evV (O : Orc) : IC → Env → Mem → List Dfr → Kont → Option Out
  | .skip, env, m, d, k => k .normal env m d
  | .region ops, env, m, d, k => evOpsV O ops env m d k
  | .draws ops, env, m, d, k => qOpsV O m.next ops env m (fun env m => k .normal env m d) fun v m => k (.panic v) (wipe ops env) m d
  | .seq a b, env, m, d, k => evV O a env m d fun x env m d => match x with | .normal => evV O b env m d k | x => k x env m d
  | .cut keep a b, env, m, d, k => (evV O a env m d fun x env m d => some ⟨x, keep.map env, m, d⟩).bind fun o => match o.x with | .normal => evV O b (unpack keep o.vals) o.m o.d k | x => k x (unpack keep o.vals) o.m o.d
  | .cond c t e, env, m, d, k => (bool? (aev env c)).bind fun b => if b = true then evV O t env m d k else evV O e env m d k
  | .block id b, env, m, d, k => evV O b env m d fun x env m d => match x with | .exit j => if j = id then k .normal env m d else k (.exit j) env m d | x => k x env m d
  | .loop l keep, env, m, d, k => (O (.loop l) (keep.map env) m d).bind fun o => match o.x with | .normal => none | x => k x (unpack keep o.vals) o.m o.d
  | .exit id, env, m, d, k => k (.exit id) env m d
  | .ret, env, m, d, k => k .ret env m d
  | .scope b, env, m, d, k => evV O b env m d k
def evOpsSV (O : Orc) : List IOper → Env → Mem → Option Value → KontS → Option Out
  | [], env, m, p, k => k .normal env m p
  | o :: t, env, m, p, k => match recov? o with
    | true => evOpsSV O t (put env o.dst (p.getD .nilIface)) m none k
    | false => evOpV O o env m [] fun x env m d => match x, d with | .normal, [] => evOpsSV O t env m p k | _, _ => none
def evSV (O : Orc) : IC → Env → Mem → Option Value → KontS → Option Out
  | .skip, env, m, p, k => k .normal env m p
  | .region ops, env, m, p, k => evOpsSV O ops env m p k
  | .seq a b, env, m, p, k => evSV O a env m p fun x env m p => match x with | .normal => evSV O b env m p k | x => k x env m p
  | .cond c t e, env, m, p, k => (bool? (aev env c)).bind fun b => if b = true then evSV O t env m p k else evSV O e env m p k
  | .ret, env, m, p, k => k .ret env m p
  | c, env, m, p, k => evV O c env m [] fun x env m d => match x, d with | .normal, [] => k .normal env m p | .ret, [] => k .ret env m p | _, _ => none
def resLV (env : Env) (m : Mem) : List IRes → Option (List Value)
  | [] => some []
  | .tmp t :: r => (resLV env m r).map (env t :: ·)
  | .cell t n g :: r => (vLd n g (env t) m).bind fun v => (resLV env m r).map (v :: ·)
def resOfV (fn : IFun) (env : Env) (m : Mem) : Option Value := (resLV env m fn.results).map pack
def leavesV (O : Orc) (fn : IFun) (env : Env) : List Dfr → Option Value → Mem → Option Out
  | [], none, m => (resOfV fn env m).bind fun v => some ⟨.ret, [v], m, []⟩
  | [], some v, m => some ⟨.panic v, [], m, []⟩
  | df :: ds, pan, m => (O (.dcall df.f pan) df.args m []).bind fun o => match o.x, o.vals with
    | .ret, [.bool r] => leavesV O fn env ds (if r = true then none else pan) o.m
    | _, _ => none
def finV (O : Orc) (fn : IFun) : Kont := fun x env m d =>
  match x with
  | .normal => leavesV O fn env d none m
  | .ret => leavesV O fn env d none m
  | .panic v => leavesV O fn env d (some v) m
  | .exit _ => none
def finSV (fn : IFun) (pan : Option Value) : KontS := fun x env m p =>
  match x with
  | .normal => (resOfV fn env m).bind fun _ => some ⟨.ret, [.bool (pan.isSome && p.isNone)], m, []⟩
  | .ret => (resOfV fn env m).bind fun _ => some ⟨.ret, [.bool (pan.isSome && p.isNone)], m, []⟩
  | _ => none

/-! ### What a marked call leaves -/
/-- What was made since is fixed; what was there stays as it is. -/
def frz : Nat → Nat → Mem → Value → Value
  | 0, _, _, _ => undef
  | k + 1, n0, m, v =>
    match v with
    | .pointer (some ⟨o, off, none⟩) => if o < n0 then v else (match m.get o with | some r => fp (r.cells.map (frz k 0 m)) off | none => undef)
    | .slice (some ⟨o, off, none⟩) n c => if o < n0 then v else (match m.get o with | some r => if off + n * unit r.sz ≤ r.cells.length then fz (unit r.sz) (c == n) (chunk (unit r.sz) n ((r.cells.map (frz k 0 m)).drop off)) else undef | none => undef)
    | .agg a => .agg (a.toList.map (frz k n0 m)).toArray
    | .tuple a => if a.size = 0 then undef else .tuple (a.toList.map (frz k n0 m)).toArray
    | .iface t u => if tagged t = true then v else .iface t (frz k n0 m u)
    | .func f a b => .func f (a.toList.map (frz k n0 m)).toArray (b.toList.map (frz k n0 m)).toArray
    | v => if base v = true then v else undef
def close (m : Mem) (o : Out) : Option Out :=
  match o.x, o.d with
  | .ret, [] => some ⟨.ret, o.vals.map (frz FUEL m.next o.m), m, []⟩
  | .panic v, [] => (match o.vals with | [] => some ⟨.panic (frz FUEL m.next o.m v), [], m, []⟩ | _ => none)
  | _, _ => none
structure CodeV where
  irs : FuncId → Option IFun
  lps : Nat → Option (List Nat × IC)
  gv : FuncId → Option (List Value → Option Value)
  pu : FuncId → Bool
def step1V (C : CodeV) (O : Orc) : Orc
  | .call f, args, m, _ => match C.gv f with
    | some g => (g args).bind fun v => some ⟨.ret, [v], m, []⟩
    | none => (C.irs f).bind fun fn => if args.length ≤ fn.n then
        (match C.pu f with
        | true => if args.all (clo FUEL) = true then (evV O fn.body (envOf args) ⟨[], m.next, m.next, 0⟩ [] (finV O fn)).bind (close m)
          else (evV O fn.body (envOf (args.map (frz FUEL 0 m))) ⟨[], m.next, m.next, 0⟩ [] (finV O fn)).bind (close ⟨[], m.next, m.lo, m.ro⟩)
        | false => evV O fn.body (envOf args) m [] (finV O fn)) else none
  | .loop l, vals, m, d => (C.lps l).bind fun p => evV O p.2 (unpack p.1 vals) m d (again O l p.1)
  | .dcall f pan, args, m, _ => (C.irs f).bind fun fn => if args.length ≤ fn.n then evSV O fn.body (envOf args) m pan (finSV fn pan) else none
def EV (C : CodeV) : Nat → Orc
  | 0 => fun _ _ _ _ => none
  | n + 1 => step1V C (EV C n)
end Go.Proofs.Ytjojfpmelhaknaa.D
