/-
  A deterministic reading of the program's code: copies, texts and bytes, nil, greatest and least, types told.
-/
import Derived.Test.YtjojfpmelhaknaaD9
import Derived.Lib.Builder
import Derived.Lib.UnsafeStr
import Derived.Laws.StructEq
namespace Go.Proofs.Ytjojfpmelhaknaa.D
open Go.RowKit
set_option linter.unusedVariables false
set_option linter.unusedSimpArgs false

/-! ### Lengths -/
def aLenS (x : Value) : Option Value := (str? x).bind fun s => some (.int .i64 s.size)
def aLenL (x : Value) : Option Value := (slc? x).bind fun
  | .nil => some (.int .i64 0)
  | .at_ _ _ n _ => some (.int .i64 n)
theorem aLenS_sound {cx : Cx} {ι : Inj} {m : Mem} {w : World} {v x x' : Value} (h : Rel cx ι m w) (hx : VRel ι x x') {t ty : TypeId} (ht : cx.P.underlying t = some .string) (hv : aLenS x = some v) : Sound cx ι m w (Builtin.len_ #[t] ty #[x']) v m := by
  unfold aLenS at hv
  cases hs : str? x with
  | none => rw [hs] at hv; cases hv
  | some s =>
    rw [hs] at hv
    cases hv
    have := str?_some hs
    subst this
    have := hx.of_string
    subst this
    exact Sound.pure (v' := .int .i64 s.size) h (by simp [Builtin.len_, Go.run_underlying ht, goInt]) (.int _ _)
theorem aLenL_sound {cx : Cx} {ι : Inj} {m : Mem} {w : World} {v x x' : Value} (h : Rel cx ι m w) (hx : VRel ι x x') {t ty e : TypeId} (ht : cx.P.underlying t = some (.slice e)) (hv : aLenL x = some v) : Sound cx ι m w (Builtin.len_ #[t] ty #[x']) v m := by
  unfold aLenL at hv
  cases hp : slc? x with
  | none => rw [hp] at hv; cases hv
  | some p =>
    rw [hp] at hv
    simp only [Option.bind_some] at hv
    cases p with
    | nil =>
      cases hv
      have := slc?_nil hp
      subst this
      obtain ⟨_, _, rfl⟩ := hx.of_nilslice
      exact Sound.pure (v' := .int .i64 0) h (by simp [Builtin.len_, Go.run_underlying ht, goInt]) (.int _ _)
    | at_ o off n c =>
      cases hv
      have := slc?_at hp
      subst this
      obtain ⟨o', off', g, a', c', e, ho, rfl, q1, q2, q3, q4⟩ := hx.of_slice
      exact Sound.pure (v' := .int .i64 n) h (by simp [Builtin.len_, Go.run_underlying ht, goInt]) (.int _ _)

/-! ### Copies -/
def aCopy (sz : Nat) (d s : Value) (m : Mem) : Option (Value × Mem) :=
  (aLenN s).bind fun sn => (slc? d).bind fun
    | .nil => some (.int .i64 0, m)
    | .at_ o off n _ => (aFirst sz (min sn n) s m).bind fun l => if l = [] then some (.int .i64 (min sn n), m) else (m.st o off l).bind fun m' => some (.int .i64 (min sn n), m')
where
  aLenN (x : Value) : Option Nat := match str? x with | some s => some s.size | none => (slc? x).bind fun | .nil => some 0 | .at_ _ _ n _ => some n
  aFirst (sz n : Nat) (x : Value) (m : Mem) : Option (List Value) := match str? x with
    | some s => if sz = 1 then some ((s.data.toList.map fun b => .int .u8 b.toNat).take n) else none
    | none => (slc? x).bind fun | .nil => some [] | .at_ o off _ _ => m.at_ o off (n * sz)

/-! ### Texts and bytes -/
def aBytes (x : Value) (m : Mem) : Option (Value × Mem) := (str? x).bind fun s => some (.slice (some ⟨m.next, 0, none⟩) s.size (s.size + 1), m.push ⟨C8, s.data.toList.map fun b => .int .u8 b.toNat⟩)
theorem aBytes_sound {cx : Cx} {ι : Inj} {m m' : Mem} {w : World} {v x x' : Value} (h : Rel cx ι m w) (hx : VRel ι x x') {src dst e : TypeId} (hs : cx.P.underlying src = some .string) (hd : cx.P.underlying dst = some (.slice e)) (hB : ByteT cx.P e)
    (hv : aBytes x m = some (v, m')) : Sound cx ι m w (convert src dst x') v m' := by
  unfold aBytes at hv
  have he := hB.1
  cases hq : str? x with
  | none => rw [hq] at hv; cases hv
  | some s =>
    rw [hq] at hv
    cases hv
    have := str?_some hq
    subst this
    have := hx.of_string
    subst this
    let cap := (Question.appendCap s.size 0 e).cut (w.tape w.drawn (.appendCap s.size 0 e))
    have hcap : s.size ≤ cap := Nat.le_add_right _ _
    let w1 : World := { w with drawn := w.drawn + 1 }
    let cs : Array Value := (s.data.map fun b => Value.int .u8 b.toNat) ++ Array.replicate (cap - s.size) (.int .u8 0)
    have hcs : cs.size = cap := by
      simp only [cs, Array.size_append, Array.size_map, Array.size_replicate]
      have : s.data.size = s.size := rfl
      omega
    let w2 := w1.alloc (.cells cs e)
    let w3 := w2.freeze { block := w1.heap.size, off := cs.size } 1
    have hw3 : w3.heap[w1.heap.size]? = some (.cells cs e (cs.size, cs.size + 1)) := by
      have : w2.heap[w1.heap.size]? = some (.cells cs e) := alloc_at w1 _
      simp only [w3, World.freeze]
      rw [if_neg (by decide)]
      simp [Array.getElem?_modify, this]
    have hext : Ext w w3 := by
      have h2 : Ext w w2 := (ext_drew w).trans (ext_alloc w1 (.cells cs e))
      have hh : w3 = { w2 with heap := w3.heap } := by simp only [w3, World.freeze]; rw [if_neg (by decide)]
      refine ⟨?_, ?_, ?_, ?_, ?_⟩
      · rw [hh]; exact h2.os
      · rw [hh]; exact h2.tape
      · rw [hh]; exact h2.output
      · have : w3.heap.size = w2.heap.size := by simp only [w3, World.freeze]; rw [if_neg (by decide)]; simp
        rw [this]; exact h2.size
      · intro k hk
        have hne : w1.heap.size ≠ k := by show w.heap.size ≠ k; omega
        rw [← h2.old k hk]
        simp only [w3, World.freeze]
        rw [if_neg (by decide)]
        simp only [Array.getElem?_modify]
        rw [if_neg hne]
    have hcell : LRel ι (s.data.toList.map fun b => Value.int .u8 b.toNat) (s.data.toList.map fun b => Value.int .u8 b.toNat) := LRel.base (by
      intro u hu
      obtain ⟨b, _, rfl⟩ := List.mem_map.1 hu
      rfl)
    refine ⟨_, .slice (some ⟨w1.heap.size, 0, none⟩) s.size cap, w3, ?_, Post.push (b := w1.heap.size) h hext hw3 (Nat.le_refl _) ⟨C8, s.data.toList.map fun b => .int .u8 b.toNat⟩ ?_ ?_ (.inr (Nat.le_refl _)) ?_ ⟨fun t' e => by have := mark_ge t'; have hC : C8 = 4294967295 := rfl; simp only at e; omega, fun _ => hB⟩, ?_⟩
    · unfold convert
      rw [run_bind (run_underlying hs w), run_bind (run_underlying hd w)]
      simp only
      rw [run_bind (run_underlying he w)]
      simp only
      unfold Conv.stringToBytes
      have hch : (choose (.appendCap s.size 0 e)).run cx.P w = .ok cap w1 := by
        simp [choose, Sem.run, Question.forced, cap, w1]
      rw [run_bind hch]
      have hnr : (newRow e ((s.data.map fun b => Value.int .u8 b.toNat) ++ Array.replicate (cap - s.size) (.int .u8 0))).run cx.P w1 = .ok ⟨w1.heap.size, 0, none⟩ w2 := rfl
      simp only
      rw [run_bind hnr]
      have hms : (markStringish ⟨w1.heap.size, 0, none⟩).run cx.P w2 = .ok () w3 := by
        unfold markStringish
        have hsh : (shape w1.heap.size).run cx.P w2 = .ok (some (e, cs.size)) w2 := by
          simp only [shape, Sem.run]
          rw [shape_at (alloc_at w1 (.cells cs e))]
        simp only
        rw [run_bind hsh]
        rfl
      rw [run_bind hms]
      rfl
    · simp only [List.length_map, Array.length_toList, hcs]
      exact hcap
    · intro i u hu
      refine ⟨u, ?_, ?_⟩
      · have hi : i < s.data.size := by
          have := (List.getElem?_eq_some_iff.1 hu).1
          simpa using this
        simp only [cs]
        rw [Array.getElem?_append_left (by simpa using hi)]
        simpa using hu
      · obtain ⟨v', a, b⟩ := hcell.get hu
        rw [hu] at a; cases a; exact b
    · intro u hu
      obtain ⟨b, _, rfl⟩ := List.mem_map.1 hu
      rfl
    · exact slice_new (cx := cx) (by omega) hcap (fun hc => by omega) (by show cap * 1 ≤ cs.size; omega)

def u8s : List Value → Option (List Int)
  | [] => some []
  | .int .u8 n :: t => (u8s t).map (n :: ·)
  | _ => none
theorem u8s_eq {l : List Value} {ns : List Int} (h : u8s l = some ns) : l = ns.map (Value.int .u8) := by
  induction l generalizing ns with
  | nil => cases h; rfl
  | cons v t ih =>
    unfold u8s at h
    split at h
    · rename_i heq; cases heq
    · rename_i n t' heq
      cases heq
      cases ht : u8s t with
      | none => rw [ht] at h; cases h
      | some ms =>
        rw [ht] at h; cases h
        simp [ih ht]
    · cases h
def strOf (ns : List Int) : ByteArray := ⟨(ns.map fun n => UInt8.ofNat n.toNat).toArray⟩
def aStr (x : Value) (m : Mem) : Option Value := (slc? x).bind fun
  | .nil => some (.string .empty)
  | .at_ o off n _ => (m.at_ o off n).bind fun l => (u8s l).bind fun ns => some (.string (strOf ns))
theorem lrel_base_eq {ι : Inj} {ns : List Int} {l' : List Value} (h : LRel ι (ns.map (Value.int .u8)) l') : l' = ns.map (Value.int .u8) := by
  induction ns generalizing l' with
  | nil => exact h.nil_inv
  | cons n t ih =>
    obtain ⟨v, r, rfl, hv, hr⟩ := h.cons_inv
    rw [hv.of_int, ih hr]; rfl
theorem aStr_sound {cx : Cx} {ι : Inj} {m : Mem} {w : World} {v x x' : Value} (h : Rel cx ι m w) (hx : VRel ι x x') {src dst e : TypeId} (hs : cx.P.underlying src = some (.slice e)) (he : cx.P.underlying e = some (.int .u8)) (hd : cx.P.underlying dst = some .string)
    (hv : aStr x m = some v) : Sound cx ι m w (convert src dst x') v m := by
  unfold aStr at hv
  cases hp : slc? x with
  | none => rw [hp] at hv; cases hv
  | some p =>
    rw [hp] at hv
    simp only [Option.bind_some] at hv
    cases p with
    | nil =>
      cases hv
      have := slc?_nil hp
      subst this
      obtain ⟨_, _, rfl⟩ := hx.of_nilslice
      exact Sound.pure h (run_convert_bytes_nil w src e hs he 0 0 dst hd) (.string _)
    | at_ o off n c =>
      have := slc?_at hp
      subst this
      obtain ⟨o', off', g, a', c', e1, ho, rfl, q1, q2, q3, q4⟩ := hx.of_slice
      cases e1
      simp only at hv
      cases hl : m.at_ o off n with
      | none => rw [hl] at hv; cases hv
      | some l =>
        rw [hl] at hv
        simp only [Option.bind_some] at hv
        cases hu : u8s l with
        | none => rw [hu] at hv; cases hv
        | some ns =>
          rw [hu] at hv
          cases hv
          obtain ⟨l', r1, r2, r3, r4⟩ := load_sound h ho hl
          have := u8s_eq hu
          subst this
          have := lrel_base_eq r2
          subst this
          refine Sound.pure h ?_ (.string _)
          rw [run_convert_bytes_string w src dst e _ n c' hs he hd]
          by_cases hn : n = 0
          · subst hn
            have : ns = [] := List.eq_nil_of_length_eq_zero (by simpa using r3)
            subst this
            rw [run_bytesToString w a' 0 c' [] rfl]
            rfl
          · obtain ⟨p1, p2⟩ := q4 (by omega)
            rw [p1, run_bytesToString w _ n c' ns r1, foldl_push_bytes]
            simp [strOf, ByteArray.empty, ByteArray.emptyWithCapacity]
            rfl

/-- A slice of bytes that a constant text gives. -/
def aMark (x : Value) (m : Mem) : Option Value := (slc? x).bind fun
  | .nil => none
  | .at_ o _ n _ => (m.get o).bind fun _ => if m.ro ≤ o ∧ n ≠ 0 then some x else none
theorem aMark_sound {cx : Cx} {ι : Inj} {m : Mem} {w : World} {v x x' : Value} (h : Rel cx ι m w) (hx : VRel ι x x') {t e : TypeId} (hs : cx.P.underlying t = some (.slice e)) (he : cx.P.underlying e = some (.int .u8))
    (hv : aMark x m = some v) : Sound cx ι m w (convert t t x') v m := by
  unfold aMark at hv
  cases hp : slc? x with
  | none => rw [hp] at hv; cases hv
  | some p =>
    rw [hp] at hv
    simp only [Option.bind_some] at hv
    cases p with
    | nil => cases hv
    | at_ o off n c =>
      have := slc?_at hp
      subst this
      have hx0 := hx
      obtain ⟨o', off', g, a', c', e1, ho, rfl, q1, q2, q3, q4⟩ := hx.of_slice
      cases e1
      simp only at hv
      cases hr : m.get o with
      | none => rw [hr] at hv; cases hv
      | some r =>
        rw [hr] at hv
        simp only [Option.bind_some] at hv
        split at hv
        · rename_i hlo
          cases hv
          obtain ⟨cs, ty, fz, k1, k2, k3, k4, k5, k6⟩ := (h.obj o g r ho hr).ex
          obtain ⟨b1, b2, b3⟩ := k6 (by rw [← h.ro]; exact hlo.1)
          have hconv : (convert t t (.slice (some a') n c')).run cx.P w = ((do markStringish a'; pure (.slice (some a') n c') : Sem Value)).run cx.P w := by
            unfold convert
            rw [run_bind (run_underlying hs w), run_bind (run_underlying hs w)]
            simp only
            rw [run_bind (run_underlying he w)]
            simp
          obtain ⟨p1, p2⟩ := q4 (by omega)
          let fz' : Nat × Nat := if fz.1 == fz.2 then (cs.size, cs.size + 1) else (min fz.1 cs.size, max fz.2 (cs.size + 1))
          have hfz : FzOk fz' cs.size := by
            by_cases hq : fz.1 = fz.2
            · have : fz' = (cs.size, cs.size + 1) := by simp [fz', hq]
              rw [this]; exact .inr (Nat.le_refl _)
            · have : fz' = (min fz.1 cs.size, max fz.2 (cs.size + 1)) := by simp [fz', hq]
              rw [this]
              rcases b3 with b3 | b3
              · exact absurd b3 hq
              · exact .inr (by simp only; omega)
          let w' := w.freeze { block := g.b, off := cs.size } 1
          have hu : Upd w w' g.b (.cells cs ty fz') := by
            have hh : w' = { w with heap := w'.heap } := by simp only [w', World.freeze]; rw [if_neg (by decide)]
            refine ⟨by rw [hh], by rw [hh], by rw [hh], ?_, ?_, ?_⟩
            · simp only [w', World.freeze]; rw [if_neg (by decide)]; simp
            · simp only [w', World.freeze]; rw [if_neg (by decide)]
              simp [Array.getElem?_modify, k1, fz']
            · intro k hk
              simp only [w', World.freeze]; rw [if_neg (by decide)]
              simp only [Array.getElem?_modify]
              rw [if_neg (fun e => hk e.symm)]
          have hrun : (markStringish a').run cx.P w = .ok () w' := by
            rw [p1]
            unfold markStringish
            have hsh : (shape g.b).run cx.P w = .ok (some (ty, cs.size)) w := by
              simp only [shape, Sem.run]
              rw [shape_at k1]
            simp only
            rw [run_bind hsh]
            rfl
          refine ⟨ι, _, w', ?_, Post.soft h (hu.below h.below b1) hu.size (fun q => ?_), hx0⟩
          · rw [hconv, run_bind hrun]; rfl
          · by_cases hq : q = g.b
            · subst hq
              exact .inr ⟨cs, ty, fz, fz', k1, hu.at_, fun _ => hfz⟩
            · exact .inl (hu.ne q hq).symm
        · cases hv

/-! ### Nil -/
inductive NK where
  | ptr | slc | fn | ifc
def aNil (k : NK) (x : Value) : Option Bool :=
  match k, x with
  | .ptr, .pointer a => some a.isNone
  | .slc, .slice a _ _ => some a.isNone
  | .fn, .func .. => some false
  | .fn, .nilFunc => some true
  | .ifc, .iface .. => some false
  | .ifc, .nilIface => some true
  | _, _ => none
def nilOf : NK → Value
  | .ptr => .pointer none
  | .slc => .slice none 0 0
  | .fn => .nilFunc
  | .ifc => .nilIface
def nk (P : Program) (t : TypeId) : Option NK :=
  match P.underlying t with
  | some (.pointer _) => some .ptr
  | some (.slice _) => some .slc
  | some (.func ..) => some .fn
  | some (.interface _) => some .ifc
  | _ => none
theorem run_equal_of {P : Program} {t : TypeId} {d : TypeDesc} (hu : P.underlying t = some d) (x y : Value) (w : World) : (Op.equal t x y).run P w = (Op.equalIn (9999 + 1) t x y).run P w := rfl
theorem run_equal {P : Program} {t : TypeId} {k : NK} (hk : nk P t = some k) {u v : Value} {b : Bool} {ι : Inj} (hx : VRel ι u v) (hb : aNil k u = some b) (w : World) : (Op.equal t v (nilOf k)).run P w = .ok b w := by
  unfold nk at hk
  cases hu : P.underlying t with
  | none => rw [hu] at hk; cases hk
  | some d =>
    rw [run_equal_of hu]
    rw [hu] at hk
    unfold Op.equalIn
    rw [run_bind (run_underlying hu w)]
    cases d <;> simp at hk <;> subst hk <;> simp only [aNil] at hb
    · cases u <;> simp at hb
      rename_i a
      cases a with
      | none => have := hx.of_base rfl; subst this; subst hb; rfl
      | some a => obtain ⟨o, off, g, rfl, ho, rfl⟩ := hx.of_ptr; subst hb; rfl
    · cases u <;> simp at hb
      rename_i a n c
      cases a with
      | none => obtain ⟨rfl, rfl, rfl⟩ := hx.of_nilslice; subst hb; rfl
      | some a => obtain ⟨o, off, g, a', c', rfl, ho, rfl, _⟩ := hx.of_slice; subst hb; rfl
    · cases u <;> simp at hb
      · obtain ⟨x', y', rfl, _⟩ := hx.of_func; subst hb; rfl
      · have := hx.of_base rfl; subst this; subst hb; rfl
    · cases u <;> simp at hb
      · obtain ⟨u', rfl, _⟩ := hx.of_iface; subst hb; rfl
      · have := hx.of_base rfl; subst this; subst hb; rfl
def aIsNil (k : NK) (neg : Bool) (x : Value) : Option Value := (aNil k x).bind fun b => some (.bool (if neg then !b else b))
theorem eqGuard_nil {k : NK} {op : BinOp} {t : TypeId} {x y : Operand} {u v : Value} {b : Bool} {ι : Inj} {P : Program} {w : World} (hx : VRel ι u v) (hb : aNil k u = some b) (hy : y = .const (nilOf k)) : (eqGuard op t x y v (nilOf k)).run P w = .ok () w := by
  subst hy
  have h1 : ∀ c, v ≠ .agg c := by
    rintro c rfl
    cases hx <;> cases k <;> simp [aNil] at hb
    all_goals (rename_i h; simp [D.base] at h)
  by_cases hn : v = .nilIface
  · subst hn
    unfold eqGuard
    cases op <;> simp [bind, Sem.bind, Sem.run, pure] <;> cases k <;> simp [nilOf, Sem.run]
  · exact eqGuard_plain P w h1 hn
theorem aIsNil_sound {cx : Cx} {ι : Inj} {m : Mem} {w : World} {v u u' : Value} {k : NK} {neg : Bool} {x : Operand} (h : Rel cx ι m w) (hx : VRel ι u u') {t : TypeId} (hk : nk cx.P t = some k) (hv : aIsNil k neg u = some v) :
    Sound cx ι m w (do eqGuard (if neg then .neq else .eql) t x (.const (nilOf k)) u' (nilOf k); binOp (if neg then .neq else .eql) t u' (nilOf k)) v m := by
  unfold aIsNil at hv
  cases hb : aNil k u with
  | none => rw [hb] at hv; cases hv
  | some b =>
    rw [hb] at hv
    cases hv
    refine Sound.pure h ?_ (.bool _)
    rw [run_bind (eqGuard_nil hx hb rfl)]
    have he := run_equal hk hx hb w
    have hnp : ∀ kk n, u' ≠ .int kk n := by rintro kk n rfl; cases hx <;> cases k <;> simp [aNil] at hb
    have hns : ∀ s, u' ≠ .string s := by rintro s rfl; cases hx <;> cases k <;> simp [aNil] at hb
    have hnf : ∀ kk n, u' ≠ .float kk n := by rintro kk n rfl; cases hx <;> cases k <;> simp [aNil] at hb
    have hnc : ∀ kk n n', u' ≠ .complex kk n n' := by rintro kk n n' rfl; cases hx <;> cases k <;> simp [aNil] at hb
    cases neg
    · have : binOp .eql t u' (nilOf k) = (do pure (.bool (← Op.equal t u' (nilOf k)))) := by
        cases u' <;> cases k <;> first | rfl | simp_all
      simp only [Bool.false_eq_true, if_false]
      rw [this, run_bind he]
      rfl
    · have : binOp .neq t u' (nilOf k) = (do pure (.bool (!(← Op.equal t u' (nilOf k))))) := by
        cases u' <;> cases k <;> first | rfl | simp_all
      simp only [if_true]
      rw [this, run_bind he]
      rfl

/-! ### Bools -/
def aEqB (neg : Bool) (x y : Value) : Option Value := (bool? x).bind fun a => (bool? y).bind fun b => some (.bool (if neg then !(a == b) else (a == b)))
theorem aEqB_sound {cx : Cx} {ι : Inj} {m : Mem} {w : World} {v u u' z z' : Value} {neg : Bool} {x y : Operand} (h : Rel cx ι m w) (hx : VRel ι u u') (hz : VRel ι z z') {t : TypeId} (hu : cx.P.underlying t = some .bool) (hv : aEqB neg u z = some v) :
    Sound cx ι m w (do eqGuard (if neg then .neq else .eql) t x y u' z'; binOp (if neg then .neq else .eql) t u' z') v m := by
  unfold aEqB at hv
  cases ha : bool? u with
  | none => rw [ha] at hv; cases hv
  | some a =>
    cases hb : bool? z with
    | none => rw [ha, hb] at hv; cases hv
    | some b =>
      rw [ha, hb] at hv
      cases hv
      have := bool?_some ha; subst this
      have := bool?_some hb; subst this
      have := hx.of_bool; subst this
      have := hz.of_bool; subst this
      refine Sound.pure h ?_ (.bool _)
      rw [run_bind (eqGuard_plain cx.P w (by simp) (by simp))]
      have he : (Op.equal t (.bool a) (.bool b)).run cx.P w = .ok (a == b) w := by
        rw [run_equal_of hu]
        unfold Op.equalIn
        rw [run_bind (run_underlying hu w)]
        rfl
      cases neg
      · show ((do pure (.bool (← Op.equal t (.bool a) (.bool b))) : Sem Value)).run cx.P w = _
        rw [run_bind he]; rfl
      · show ((do pure (.bool (!(← Op.equal t (.bool a) (.bool b)))) : Sem Value)).run cx.P w = _
        rw [run_bind he]; rfl

/-! ### Greatest and least -/
def aMax (mx : Bool) (xs : List Value) : Option Value :=
  match xs with
  | [] => none
  | x :: t => t.foldlM (fun a b => (int? a).bind fun (k, i) => (int? b).bind fun (_, j) => some (.int k (if mx then (if j > i then j else i) else (if j < i then j else i)))) x
theorem aMax_sound {cx : Cx} {ι : Inj} {m : Mem} {w : World} {v : Value} {mx : Bool} {xs xs' : List Value} (h : Rel cx ι m w) (hx : LRel ι xs xs') (ats : Array TypeId) (ty : TypeId) (hv : aMax mx xs = some v) :
    Sound cx ι m w (if mx then Builtin.max_ ats ty xs'.toArray else Builtin.min_ ats ty xs'.toArray) v m := by
  cases xs with
  | nil => cases hv
  | cons x t =>
    obtain ⟨x', t', rfl, h1, h2⟩ := hx.cons_inv
    have key : ∀ (t t' : List Value) (x x' v : Value), VRel ι x x' → LRel ι t t' → t.foldlM (fun a b => (int? a).bind fun (k, i) => (int? b).bind fun (_, j) => some (.int k (if mx then (if j > i then j else i) else (if j < i then j else i)))) x = some v →
        ∃ v', (t'.foldlM (if mx then Builtin.max2 else Builtin.min2) x').run cx.P w = .ok v' w ∧ VRel ι v v' := by
      intro t
      induction t with
      | nil =>
        intro t' x x' v h1 h2 hv
        rw [h2.nil_inv]
        cases hv
        exact ⟨x', rfl, h1⟩
      | cons y r ih =>
        intro t' x x' v h1 h2 hv
        obtain ⟨y', r', rfl, h3, h4⟩ := h2.cons_inv
        simp only [List.foldlM_cons] at hv ⊢
        cases hi : int? x with
        | none => rw [hi] at hv; cases hv
        | some p =>
          cases hj : int? y with
          | none => rw [hi, hj] at hv; cases hv
          | some q =>
            obtain ⟨k, i⟩ := p; obtain ⟨k', j⟩ := q
            rw [hi, hj] at hv
            have := int?_some hi; subst this
            have := int?_some hj; subst this
            have := h1.of_int; subst this
            have := h3.of_int; subst this
            obtain ⟨v', a, b⟩ := ih r' _ _ v (.int _ _) h4 hv
            refine ⟨v', ?_, b⟩
            rw [run_bind (a := .int k (if mx then (if j > i then j else i) else (if j < i then j else i))) (w1 := w) (by cases mx <;> rfl)]
            exact a
    obtain ⟨v', a, b⟩ := key t t' x x' v h1 h2 hv
    refine Sound.pure h ?_ b
    cases mx
    · exact a
    · exact a

/-! ### Types told -/
def aAssert (t : TypeId) (ok : Bool) (z x : Value) : Option Value :=
  match x with
  | .iface u v => if u = t then some (if ok then .tuple #[v, .bool true] else v) else if ok then some (.tuple #[z, .bool false]) else none
  | .nilIface => if ok then some (.tuple #[z, .bool false]) else none
  | _ => none
def plainT (P : Program) (t : TypeId) : Bool := match P.underlying t with | some (.interface _) => false | some _ => true | none => false
theorem aAssert_sound {cx : Cx} {ι : Inj} {m : Mem} {w : World} {v x x' z : Value} (h : Rel cx ι m w) (hx : VRel ι x x') {t xt : TypeId} {i : TypeInfo} (hi : cx.P.info? t = some i) (hz : i.zero = some z) (hzr : constOk z = true) (hp : plainT cx.P t = true) {ok : Bool} (hv : aAssert t ok z x = some v) :
    Sound cx ι m w (Instr.typeAssert x' xt t ok) v m := by
  unfold plainT at hp
  cases hu : cx.P.underlying t with
  | none => rw [hu] at hp; cases hp
  | some d =>
    rw [hu] at hp
    have hd : ∀ ms, d ≠ .interface ms := by rintro ms rfl; cases hp
    have hfail : ok = true → ((do pure (.tuple #[← zeroValue t, .bool false]) : Sem Value)).run cx.P w = .ok (.tuple #[z, .bool false]) w := fun _ => by
      rw [run_bind (run_zeroValue hi hz w)]; rfl
    have hzz : VRel ι (.tuple #[z, .bool false]) (.tuple #[z, .bool false]) := VRel.tuple_l (l := [z, .bool false]) (l' := [z, .bool false]) (.cons (constOk_rel hzr) (.cons (.bool _) .nil))
    unfold aAssert at hv
    split at hv
    · rename_i u y
      obtain ⟨y', rfl, hy⟩ := hx.of_iface
      split at hv
      · subst_vars
        cases hv
        refine Sound.pure (v' := if ok then .tuple #[y', .bool true] else y') h ?_ ?_
        · unfold Instr.typeAssert
          simp only
          rw [run_bind (run_underlying hu w)]
          cases d <;> first | exact absurd rfl (hd _) | (simp only [if_true]; rfl)
        · split
          · exact VRel.tuple_l (l := [y, .bool true]) (l' := [y', .bool true]) (.cons hy (.cons (.bool _) .nil))
          · exact hy
      · rename_i hne
        split at hv
        · rename_i hok
          cases hv
          subst hok
          refine Sound.pure h ?_ hzz
          unfold Instr.typeAssert
          simp only
          rw [run_bind (run_underlying hu w)]
          cases d <;> first | exact absurd rfl (hd _) | (simp only [if_neg hne, if_true]; exact hfail rfl)
        · cases hv
    · have := hx.of_base rfl
      subst this
      split at hv
      · rename_i hok
        cases hv
        subst hok
        refine Sound.pure h ?_ hzz
        unfold Instr.typeAssert
        simp only
        rw [run_bind (run_underlying hu w)]
        cases d <;> first | exact absurd rfl (hd _) | (simp only [if_true]; exact hfail rfl)
      · cases hv
    · cases hv

/-! ### Structs compared -/
inductive CK where
  | int | bool | str
def cellEq (k : CK) (a b : Value) : Option Bool :=
  match k, a, b with
  | .int, .int k a, .int k' b => if k = k' then some (a == b) else none
  | .bool, .bool a, .bool b => some (a == b)
  | .str, .string a, .string b => some (a.toList == b.toList)
  | _, _, _ => none
def eqL : List CK → List Value → List Value → Option Bool
  | [], [], [] => some true
  | k :: ks, a :: s, b :: t => (cellEq k a b).bind fun r => (eqL ks s t).map (r && ·)
  | _, _, _ => none
def aEqS (neg : Bool) (ks : List CK) (x y : Value) : Option Value :=
  (agg? x).bind fun l => (agg? y).bind fun l' => (eqL ks l l').map fun r => .bool (if neg then !r else r)
def eqFs (g : TypeId → Option (List CK)) (P : Program) : List Field → Nat → Option (List CK)
  | [], n => some []
  | f :: fs, n => if f.name ≠ "_" ∧ f.offset = n then (g f.type).bind fun ks => (ti P f.type).bind fun y => if y.size = ks.length then (eqFs g P fs (n + ks.length)).map (ks ++ ·) else none else none
/-- Which cells are compared. -/
def eqShape (P : Program) : Nat → TypeId → Option (List CK)
  | 0, _ => none
  | k + 1, t => match P.underlying t with
    | some (.int _) => some [.int]
    | some .bool => some [.bool]
    | some .string => some [.str]
    | some (.struct fs) => if P.stoodInHeld t = false then eqFs (eqShape P k) P fs.toList 0 else none
    | _ => none
theorem cellEq_base {k : CK} {a b : Value} {r : Bool} (h : cellEq k a b = some r) : base a = true ∧ base b = true := by
  unfold cellEq at h
  split at h <;> first | exact ⟨rfl, rfl⟩ | cases h
theorem eqL_base {ks : List CK} {s t : List Value} {r : Bool} (h : eqL ks s t = some r) : (∀ v ∈ s, base v = true) ∧ (∀ v ∈ t, base v = true) ∧ s.length = ks.length ∧ t.length = ks.length := by
  induction ks generalizing s t r with
  | nil =>
    cases s <;> cases t <;> first
      | exact ⟨fun v hv => (by cases hv), fun v hv => (by cases hv), rfl, rfl⟩
      | cases h
  | cons k ks ih =>
    cases s with
    | nil => cases h
    | cons a s =>
      cases t with
      | nil => cases h
      | cons b t =>
        simp only [eqL] at h
        cases hc : cellEq k a b with
        | none => rw [hc] at h; cases h
        | some r1 =>
          cases ht : eqL ks s t with
          | none => rw [hc, ht] at h; cases h
          | some r2 =>
            obtain ⟨b1, b2⟩ := cellEq_base hc
            obtain ⟨c1, c2, c3, c4⟩ := ih ht
            exact ⟨by simpa using ⟨b1, c1⟩, by simpa using ⟨b2, c2⟩, by simp [c3], by simp [c4]⟩
theorem eqL_append {k1 k2 : List CK} {a b c d : List Value} {r : Bool} (hl : a.length = k1.length) (hl2 : b.length = k1.length) (h : eqL (k1 ++ k2) (a ++ c) (b ++ d) = some r) : ∃ r1 r2, eqL k1 a b = some r1 ∧ eqL k2 c d = some r2 ∧ r = (r1 && r2) := by
  induction k1 generalizing a b r with
  | nil =>
    have : a = [] := List.eq_nil_of_length_eq_zero hl
    subst this
    have : b = [] := List.eq_nil_of_length_eq_zero hl2
    subst this
    exact ⟨true, r, rfl, h, by simp⟩
  | cons k ks ih =>
    cases a with
    | nil => simp at hl
    | cons x a =>
      cases b with
      | nil => simp at hl2
      | cons y b =>
        simp only [List.cons_append, eqL] at h ⊢
        cases hc : cellEq k x y with
        | none => rw [hc] at h; cases h
        | some r0 =>
          cases ht : eqL (ks ++ k2) (a ++ c) (b ++ d) with
          | none => rw [hc, ht] at h; cases h
          | some rr =>
            rw [hc, ht] at h
            cases h
            obtain ⟨r1, r2, e1, e2, e3⟩ := ih (by simpa using hl) (by simpa using hl2) ht
            exact ⟨r0 && r1, r2, by rw [e1]; rfl, e2, by rw [e3, Bool.and_assoc]⟩
theorem part_agg {P : Program} {t : TypeId} {y : TI} (hy : TIs P t y) (hg : y.agg = true) (xs : Array Value) (off : Nat) (w : World) : (part t xs off).run P w = .ok (.agg (xs.extract off (off + y.size))) w := by
  obtain ⟨⟨i, z, h1, h2, h3, h4, h5, _⟩, ha⟩ := hy
  unfold part
  rw [run_bind (run_isAgg ha w), if_pos hg, run_bind (run_sizeOf h1 w), h5]
  rfl
theorem part_one {P : Program} {t : TypeId} {y : TI} (hy : TIs P t y) (hg : y.agg = false) (xs : Array Value) (off : Nat) {v : Value} (hv : xs[off]? = some v) (w : World) : (part t xs off).run P w = .ok v w := by
  obtain ⟨_, ha⟩ := hy
  unfold part
  rw [run_bind (run_isAgg ha w), if_neg (by rw [hg]; simp)]
  simp [hv, pure, Sem.run]
def EqOk (P : Program) (k : Nat) (t : TypeId) (ks : List CK) : Prop :=
  ∀ y, TIs P t y → y.size = ks.length → ∀ (d : Nat) (xs ys : Array Value) (off : Nat) (b : Bool) (w : World), off + ks.length ≤ xs.size → off + ks.length ≤ ys.size → eqL ks ((xs.toList.drop off).take ks.length) ((ys.toList.drop off).take ks.length) = some b →
    ∃ u v, (part t xs off).run P w = .ok u w ∧ (part t ys off).run P w = .ok v w ∧ (Op.equalIn (d + k) t u v).run P w = .ok b w
theorem eqFs_sound {P : Program} {k : Nat} {g : TypeId → Option (List CK)} (hg : ∀ t ks, g t = some ks → EqOk P k t ks) : ∀ (fs : List Field) (n0 : Nat) (ks : List CK), eqFs g P fs n0 = some ks → ∀ (d : Nat) (xs ys : Array Value) (b : Bool) (w : World), n0 + ks.length ≤ xs.size → n0 + ks.length ≤ ys.size → eqL ks ((xs.toList.drop n0).take ks.length) ((ys.toList.drop n0).take ks.length) = some b →
    (Op.eqFields (d + k) xs ys fs).run P w = .ok b w := by
  intro fs
  induction fs with
  | nil =>
    intro n0 n h d xs ys b w h1 h2 hb
    cases h
    simp only [List.length_nil, List.take_zero, eqL, Option.some.injEq] at hb
    subst hb
    rfl
  | cons f fs ih =>
    intro n0 n h d xs ys b w h1 h2 hb
    unfold eqFs at h
    split at h
    · rename_i hc
      cases hs : g f.type with
      | none => rw [hs] at h; cases h
      | some ks =>
        rw [hs] at h
        simp only [Option.bind_some] at h
        cases ht : ti P f.type with
        | none => rw [ht] at h; cases h
        | some y =>
          rw [ht] at h
          simp only [Option.bind_some] at h
          split at h
          · rename_i hsz
            cases hr : eqFs g P fs (n0 + ks.length) with
            | none => rw [hr] at h; cases h
            | some k2 =>
              rw [hr] at h
              cases h
              rw [List.length_append] at h1 h2
              have cutx : ∀ l : List Value, (l.drop n0).take (ks ++ k2).length = (l.drop n0).take ks.length ++ (l.drop (n0 + ks.length)).take k2.length := fun l => by
                rw [List.length_append, List.take_add, List.drop_drop]
              rw [cutx, cutx] at hb
              obtain ⟨r1, r2, e1, e2, e3⟩ := eqL_append (by simp; omega) (by simp; omega) hb
              obtain ⟨u, v, a1, a2, a3⟩ := hg f.type ks hs y (ti_spec ht) hsz d xs ys n0 r1 w (by omega) (by omega) e1
              unfold Op.eqFields
              rw [if_pos hc.1, hc.2, run_bind a1, run_bind a2, run_bind a3]
              subst e3
              cases r1
              · rfl
              · simp only [Bool.not_true, Bool.false_eq_true, if_false, Bool.true_and]
                exact ih _ k2 hr d xs ys r2 w (by omega) (by omega) e2
          · cases h
    · cases h
theorem eqL_one {k : CK} {l l' : List Value} {b : Bool} (h : eqL [k] l l' = some b) : ∃ u v, l = [u] ∧ l' = [v] ∧ cellEq k u v = some b := by
  obtain ⟨_, _, h1, h2⟩ := eqL_base h
  rcases l with _ | ⟨u, _ | ⟨u2, t⟩⟩ <;> simp at h1
  rcases l' with _ | ⟨v, _ | ⟨v2, t⟩⟩ <;> simp at h2
  simp only [eqL] at h
  cases hc : cellEq k u v with
  | none => rw [hc] at h; cases h
  | some r =>
    rw [hc] at h
    simp at h
    subst h
    exact ⟨u, v, rfl, rfl, hc⟩
theorem take_one_get {xs : Array Value} {off : Nat} {u : Value} (h : (xs.toList.drop off).take 1 = [u]) : xs[off]? = some u := by
  have : ((xs.toList.drop off).take 1)[0]? = some u := by rw [h]; rfl
  rw [List.getElem?_take, if_pos (by omega), List.getElem?_drop] at this
  simpa using this
theorem eqShape_sound {P : Program} : ∀ (k : Nat) (t : TypeId) (ks : List CK), eqShape P k t = some ks → EqOk P k t ks := by
  intro k
  induction k with
  | zero => intro t n h; cases h
  | succ k ih =>
    intro t ks h y hy hsz d xs ys off b w h1 h2 hb
    have single : ∀ kk, ks = [kk] → y.agg = false → (∀ u v, cellEq kk u v = some b → (Op.equalIn (d + (k + 1)) t u v).run P w = .ok b w) → ∃ u v, (part t xs off).run P w = .ok u w ∧ (part t ys off).run P w = .ok v w ∧ (Op.equalIn (d + (k + 1)) t u v).run P w = .ok b w := by
      intro kk hn hg hk
      subst hn
      obtain ⟨u, v, e1, e2, e3⟩ := eqL_one hb
      exact ⟨u, v, part_one hy hg xs off (take_one_get e1) w, part_one hy hg ys off (take_one_get e2) w, hk u v e3⟩
    have hagg := hy.agg
    unfold aggT at hagg
    unfold eqShape at h
    split at h
    · rename_i kk hu
      rw [hu] at hagg
      cases h
      refine single .int rfl (by simpa using hagg.symm) (fun u v hc => ?_)
      unfold cellEq at hc
      split at hc <;> first | (rename_i hk; cases hk; done) | skip
      · split at hc
        · cases hc; subst_vars; exact Go.run_equalIn_int w (d + k) t _ kk _ _ hu
        · cases hc
      · cases hc
    · rename_i hu
      rw [hu] at hagg
      cases h
      refine single .bool rfl (by simpa using hagg.symm) (fun u v hc => ?_)
      unfold cellEq at hc
      split at hc <;> first | (rename_i hk; cases hk; done) | skip
      · cases hc; exact Go.run_equalIn_bool' w (d + k) t _ _ hu
      · cases hc
    · rename_i hu
      rw [hu] at hagg
      cases h
      refine single .str rfl (by simpa using hagg.symm) (fun u v hc => ?_)
      unfold cellEq at hc
      split at hc <;> first | (rename_i hk; cases hk; done) | skip
      · cases hc; exact Go.run_equalIn_string w (d + k) t _ _ hu
      · cases hc
    · rename_i fs hu
      rw [hu] at hagg
      split at h
      · rename_i hst
        have hg : y.agg = true := by simpa using hagg.symm
        refine ⟨_, _, part_agg hy hg xs off w, part_agg hy hg ys off w, ?_⟩
        have hf : P.fieldsOf t = fs := by unfold Program.fieldsOf; rw [hu]
        rw [show d + (k + 1) = (d + k) + 1 from rfl, Go.run_equalIn_struct w (d + k) t _ _ (by rw [hf]; exact hu) hst, hf]
        have ex : ∀ zs : Array Value, off + ks.length ≤ zs.size → (zs.extract off (off + y.size)).toList = (zs.toList.drop off).take ks.length := fun zs hz => by
          rw [hsz]; simp [List.drop_take, Nat.add_sub_cancel_left]
        refine eqFs_sound (g := eqShape P k) ih fs.toList 0 ks h d _ _ b w (by simp; omega) (by simp; omega) ?_
        rw [ex xs h1, ex ys h2]
        simpa [List.take_take] using hb
      · cases h
    · cases h
theorem lrel_bases {ι : Inj} {l l' : List Value} (hb : ∀ v ∈ l, D.base v = true) (h : LRel ι l l') : l' = l := by
  induction l generalizing l' with
  | nil => exact h.nil_inv
  | cons a t ih =>
    obtain ⟨v, t', rfl, h1, h2⟩ := h.cons_inv
    rw [h1.of_base (hb a (by simp)), ih (fun x hx => hb x (by simp [hx])) h2]
theorem aEqS_sound {cx : Cx} {ι : Inj} {m : Mem} {w : World} {v u u' z z' : Value} {neg : Bool} {ks : List CK} {x y : Operand} (h : Rel cx ι m w) (hx : VRel ι u u') (hz : VRel ι z z') {t : TypeId} {fs : Array Field} (hu : cx.P.underlying t = some (.struct fs)) (hs : eqShape cx.P 100 t = some ks) (he : cx.P.eqGuardType cx.P.depth t = false)
    {yt : TI} (hy : ti cx.P t = some yt) (hsz : yt.size = ks.length) (hv : aEqS neg ks u z = some v) :
    Sound cx ι m w (do eqGuard (if neg then .neq else .eql) t x y u' z'; binOp (if neg then .neq else .eql) t u' z') v m := by
  unfold aEqS at hv
  cases ha : agg? u with
  | none => rw [ha] at hv; cases hv
  | some l =>
    cases hb : agg? z with
    | none => rw [ha, hb] at hv; cases hv
    | some l2 =>
      rw [ha, hb] at hv
      simp only [Option.bind_some] at hv
      cases hq : eqL ks l l2 with
      | none => rw [hq] at hv; cases hv
      | some r =>
        rw [hq] at hv
        cases hv
        have := agg?_some ha; subst this
        have := agg?_some hb; subst this
        obtain ⟨b1, b2, b3, b4⟩ := eqL_base hq
        obtain ⟨x1, rfl, c1, c2, _⟩ := hx.of_agg
        obtain ⟨x2, rfl, d1, d2, _⟩ := hz.of_agg
        have e1 : x1 = l.toArray := by
          have := lrel_bases b1 (by simpa using lrel_of_arr c1 c2)
          rw [← this]
        have e2 : x2 = l2.toArray := by
          have := lrel_bases b2 (by simpa using lrel_of_arr d1 d2)
          rw [← this]
        subst e1 e2
        refine Sound.pure h ?_ (.bool _)
        rw [run_bind (Go.run_eqGuard_agg w _ t x y _ _ he)]
        obtain ⟨p, q, p1, p2, p3⟩ := eqShape_sound 100 t ks hs yt (ti_spec hy) hsz 9900 l.toArray l2.toArray 0 r w (by simp [b3]) (by simp [b4]) (by simpa [← b3, List.take_of_length_le, b4] using hq)
        have hg : yt.agg = true := by
          have := (ti_spec hy).agg
          unfold aggT at this
          rw [hu] at this
          simpa using this.symm
        rw [part_agg (ti_spec hy) hg, hsz] at p1 p2
        cases p1
        cases p2
        have f1 : l.toArray.extract 0 (0 + ks.length) = l.toArray := by rw [Nat.zero_add, ← b3]; simp
        have f2 : l2.toArray.extract 0 (0 + ks.length) = l2.toArray := by rw [Nat.zero_add, ← b4]; simp
        rw [f1, f2] at p3
        cases neg
        · simp only [Bool.false_eq_true, if_false]
          rw [Go.run_eql_struct, show (10000 : Nat) = 9900 + 100 from rfl, p3]; rfl
        · simp only [if_true]
          rw [Go.run_neq_struct, show (10000 : Nat) = 9900 + 100 from rfl, p3]; rfl

/-! ### What builders do with memory -/
def aEqP (neg : Bool) (x y : Value) : Option Value := (addr? x).bind fun a => (addr? y).bind fun b => if a = b then some (.bool (!neg)) else none
def aToUns (x : Value) (m : Mem) : Option Value := (addr? x).bind fun a => (m.get a.1).bind fun r => if a.2 < r.cells.length then some x else none
def aFromUns (u n : Nat) (x : Value) (m : Mem) : Option Value := (addr? x).bind fun a => (m.get a.1).bind fun r => if a.2 = 0 ∧ r.sz = mark u ∧ n ≤ r.cells.length then some x else none
def aSData (x : Value) : Option Value := (slc? x).bind fun
  | .nil => some (.pointer none)
  | .at_ o off n _ => if n = 0 then none else some (.pointer (some ⟨o, off, none⟩))
def isNilP (x : Value) : Bool := match x with | .pointer none => true | _ => false
def aUStr (x n : Value) (m : Mem) : Option (Value × Mem) := (int? n).bind fun q => if q.1 = .i64 then
    (if q.2 = 0 then (if isNilP x = true then some (.string .empty, m) else none)
     else if 0 ≤ q.2 ∧ q.2 ≤ 9223372036854775807 then (addr? x).bind fun a => (m.get a.1).bind fun r => if r.sz = C8 ∧ m.lo ≤ a.1 then (m.at_ a.1 a.2 q.2.toNat).bind fun l => (u8s l).bind fun ns => some (.string (strOf ns), m.del a.1) else none
     else none) else none
theorem isNilP_eq {x : Value} (h : isNilP x = true) : x = .pointer none := by
  unfold isNilP at h
  split at h
  · rfl
  · cases h
theorem aEqP_sound {cx : Cx} {ι : Inj} {m : Mem} {w : World} {v x y x' y' : Value} {t te : TypeId} {j : TypeInfo} {a b : Operand} {neg : Bool} (h : Rel cx ι m w) (hx : VRel ι x x') (hy : VRel ι y y') (hp : cx.P.underlying t = some (.pointer te)) (hte : cx.P.info? te = some j)
    (hv : aEqP neg x y = some v) : Sound cx ι m w (do eqGuard (if neg then .neq else .eql) t a b x' y'; binOp (if neg then .neq else .eql) t x' y') v m := by
  unfold aEqP at hv
  cases h1 : addr? x with
  | none => rw [h1] at hv; cases hv
  | some p =>
    cases h2 : addr? y with
    | none => rw [h1, h2] at hv; cases hv
    | some q =>
      rw [h1, h2] at hv
      simp only [Option.bind_some] at hv
      split at hv
      · rename_i heq
        obtain ⟨o, off⟩ := p
        obtain ⟨o0, off0⟩ := q
        cases heq
        cases hv
        rw [addr?_some h1] at hx
        rw [addr?_some h2] at hy
        obtain ⟨o1, f1, g1, e1, k1, rfl⟩ := hx.of_ptr
        obtain ⟨o2, f2, g2, e2, k2, rfl⟩ := hy.of_ptr
        cases e1; cases e2
        rw [k1] at k2; cases k2
        refine Sound.pure h ?_ (.bool _)
        rw [run_bind (eqGuard_plain cx.P w (by simp) (by simp))]
        have hd : ∀ d : Nat, (Op.equalIn (d + 1) t (.pointer (some ⟨g1.b, g1.s + off, none⟩)) (.pointer (some ⟨g1.b, g1.s + off, none⟩))).run cx.P w = .ok true w := fun d => by
          simp [Op.equalIn, Go.run_underlying hp, sizeOf, typeInfo, hte, run_sameAddr_same]
        cases neg
        · simp [binOp, Op.equal, Op.maxDepth, hd 9999]
        · simp [binOp, Op.equal, Op.maxDepth, hd 9999]
      · cases hv
theorem aToUns_sound {cx : Cx} {ι : Inj} {m : Mem} {w : World} {v x x' : Value} {s d t : TypeId} {j : TypeInfo} (h : Rel cx ι m w) (hx : VRel ι x x') (hs : cx.P.underlying s = some (.pointer t)) (hd : cx.P.underlying d = some .unsafePointer) (ht : cx.P.info? t = some j) (hj : j.size ≠ 0)
    (hv : aToUns x m = some v) : Sound cx ι m w (convert s d x') v m := by
  unfold aToUns at hv
  cases h1 : addr? x with
  | none => rw [h1] at hv; cases hv
  | some p =>
    obtain ⟨o, off⟩ := p
    rw [h1] at hv
    simp only [Option.bind_some] at hv
    cases hr : m.get o with
    | none => rw [hr] at hv; cases hv
    | some r =>
      rw [hr] at hv
      simp only [Option.bind_some] at hv
      split at hv
      · rename_i hlt
        cases hv
        have hx0 := hx
        rw [addr?_some h1] at hx
        obtain ⟨o1, f1, g1, e1, k1, rfl⟩ := hx.of_ptr
        cases e1
        obtain ⟨cs, e, fz, k2, k3, k4, k5, k6, k7⟩ := (h.obj o g1 r k1 hr).ex
        exact Sound.pure h (Go.Lib.run_to_unsafe w ⟨g1.b, g1.s + off, none⟩ hs hd ht hj (shape_at k2) (by simp only; omega)) hx0
      · cases hv
theorem liesAt_self {P : Program} {u : TypeId} {count : Nat} (h0 : P.cellsOf u ≠ 0) (h1 : 1 ≤ count) : liesAt P P.depth u count 0 u 1 = true := by
  have hd : P.depth = (2 * (P.types.size + Made.depth) + 1) + 1 := rfl
  rw [hd]
  simp only [liesAt, Bool.or_eq_true]
  left
  rw [hd]
  simp [rowAt, h0, h1, sameLayout]
theorem aFromUns_sound {cx : Cx} {ι : Inj} {m : Mem} {w : World} {v x x' : Value} {s d u n : TypeId} {j : TypeInfo} (h : Rel cx ι m w) (hx : VRel ι x x') (hs : cx.P.underlying s = some .unsafePointer) (hd : cx.P.underlying d = some (.pointer u)) (ht : cx.P.info? u = some j) (hj : j.size ≠ 0)
    (hv : aFromUns u j.size x m = some v) : Sound cx ι m w (convert s d x') v m := by
  unfold aFromUns at hv
  cases h1 : addr? x with
  | none => rw [h1] at hv; cases hv
  | some p =>
    obtain ⟨o, off⟩ := p
    rw [h1] at hv
    simp only [Option.bind_some] at hv
    cases hr : m.get o with
    | none => rw [hr] at hv; cases hv
    | some r =>
      rw [hr] at hv
      simp only [Option.bind_some] at hv
      split at hv
      · rename_i hc
        obtain ⟨rfl, hc2, hc3⟩ := hc
        cases hv
        have hx0 := hx
        rw [addr?_some h1] at hx
        obtain ⟨o1, f1, g1, e1, k1, rfl⟩ := hx.of_ptr
        cases e1
        obtain ⟨cs, e, fz, k2, k3, k4, k5, k6, k7⟩ := (h.obj o g1 r k1 hr).ex
        obtain ⟨q1, cs0, fz0, q2, q3⟩ := (h.obj o g1 r k1 hr).typ u hc2
        rw [k2] at q2; cases q2
        have hcell : cx.P.cellsOf u = j.size := by unfold Program.cellsOf; rw [ht]; rfl
        refine Sound.pure h (Go.Lib.run_from_unsafe w ⟨g1.b, g1.s + 0, none⟩ hs hd ht (shape_at k2) ?_) hx0
        simp only [q1, Nat.add_zero]
        refine liesAt_self (by rw [hcell]; exact hj) ?_
        rw [hcell]
        exact (Nat.le_div_iff_mul_le (by omega)).2 (by omega)
      · cases hv
theorem aSData_sound {cx : Cx} {ι : Inj} {m : Mem} {w : World} {v x x' : Value} {ts : Array TypeId} {ty : TypeId} (h : Rel cx ι m w) (hx : VRel ι x x') (hv : aSData x = some v) : Sound cx ι m w (Builtin.unsafeSliceData_ ts ty #[x']) v m := by
  unfold aSData at hv
  cases hp : slc? x with
  | none => rw [hp] at hv; cases hv
  | some p =>
    rw [hp] at hv
    simp only [Option.bind_some] at hv
    cases p with
    | nil =>
      cases hv
      rw [slc?_nil hp] at hx
      obtain ⟨_, _, rfl⟩ := hx.of_nilslice
      exact Sound.pure h (Go.Lib.run_unsafeSliceData_nil w ts ty 0 0) (.base rfl)
    | at_ o off n c =>
      simp only at hv
      split at hv
      · cases hv
      · cases hv
        rw [slc?_at hp] at hx
        obtain ⟨o', off', g, a', c', e1, ho, rfl, q1, q2, q3, q4⟩ := hx.of_slice
        cases e1
        obtain ⟨p1, p2⟩ := q4 (by omega)
        refine Sound.pure h (Go.Lib.run_unsafeSliceData_row w ts ty a' n c' (by omega)) ?_
        rw [p1]
        exact .ptr ho
theorem liesAt_bytes' {P : Program} {e u : TypeId} (he : ByteT P e) (hu : P.underlying u = some (.int .u8)) {count off n : Nat} (hn : off + n ≤ count) : liesAt P P.depth e count off u n = true := by
  have hd : P.depth = (2 * (P.types.size + Made.depth) + 1) + 1 := rfl
  rw [hd]
  simp only [liesAt, Bool.or_eq_true]
  left
  rw [hd]
  simp [rowAt, he.2, hn, sameLayout, he.1, hu, Nat.mod_one]
theorem upd_freeze {w : World} {b : Nat} {cs : Array Value} {e : TypeId} {fz : Nat × Nat} (k1 : w.heap[b]? = some (.cells cs e fz)) (off n : Nat) : ∃ fz', Upd w (w.freeze ⟨b, off, none⟩ n) b (.cells cs e fz') := by
  by_cases hn : n = 0
  · subst hn
    exact ⟨fz, by simp [World.freeze], by simp [World.freeze], by simp [World.freeze], by simp [World.freeze], by simp [World.freeze, k1], fun k _ => by simp [World.freeze]⟩
  · refine ⟨if fz.1 == fz.2 then (off, off + n) else (min fz.1 off, max fz.2 (off + n)), ?_⟩
    have hh : w.freeze ⟨b, off, none⟩ n = { w with heap := (w.freeze ⟨b, off, none⟩ n).heap } := by simp only [World.freeze]; rw [if_neg hn]
    refine ⟨by rw [hh], by rw [hh], by rw [hh], ?_, ?_, ?_⟩
    · simp only [World.freeze]; rw [if_neg hn]; simp
    · simp only [World.freeze]; rw [if_neg hn]
      simp [Array.getElem?_modify, k1]
    · intro k hk
      simp only [World.freeze]; rw [if_neg hn]
      simp only [Array.getElem?_modify]
      rw [if_neg (fun e => hk e.symm)]
theorem aUStr_sound {cx : Cx} {ι : Inj} {m m' : Mem} {w : World} {v x x' n n' : Value} {pt it ty e2 : TypeId} (h : Rel cx ι m w) (hx : VRel ι x x') (hn : VRel ι n n') (hp : cx.P.underlying pt = some (.pointer e2)) (he : cx.P.underlying e2 = some (.int .u8))
    (hv : aUStr x n m = some (v, m')) : Sound cx ι m w (Builtin.unsafeString_ #[pt, it] ty #[x', n']) v m' := by
  unfold aUStr at hv
  cases h1 : int? n with
  | none => rw [h1] at hv; cases hv
  | some q =>
    obtain ⟨k, q⟩ := q
    rw [h1] at hv
    simp only [Option.bind_some] at hv
    rw [int?_some h1] at hn
    rw [hn.of_int]
    split at hv
    · subst_vars
      split at hv
      · subst_vars
        split at hv
        · rename_i hnil
          cases hv
          rw [isNilP_eq hnil] at hx
          rw [hx.of_base rfl]
          exact Sound.pure h (Go.Lib.run_unsafeString_none w pt it ty none) (.string _)
        · cases hv
      · rename_i hq0
        split at hv
        · rename_i hq
          cases h2 : addr? x with
          | none => rw [h2] at hv; cases hv
          | some p =>
            obtain ⟨o, off⟩ := p
            rw [h2] at hv
            simp only [Option.bind_some] at hv
            rw [addr?_some h2] at hx
            obtain ⟨o1, f1, g, e1, ho, rfl⟩ := hx.of_ptr
            cases e1
            cases hr : m.get o with
            | none => rw [hr] at hv; cases hv
            | some r =>
              rw [hr] at hv
              simp only [Option.bind_some] at hv
              split at hv
              · rename_i hc
                cases hl : m.at_ o off q.toNat with
                | none => rw [hl] at hv; cases hv
                | some l =>
                  rw [hl] at hv
                  simp only [Option.bind_some] at hv
                  cases hu : u8s l with
                  | none => rw [hu] at hv; cases hv
                  | some ns =>
                    rw [hu] at hv
                    cases hv
                    obtain ⟨cs, e, fz, k1, k2, k3, k4, k5, k6⟩ := (h.obj o g r ho hr).ex
                    obtain ⟨cs0, e0, fz0, j1, j2⟩ := (h.obj o g r ho hr).byt hc.1
                    rw [k1] at j1; cases j1
                    obtain ⟨b1, b2, b3⟩ := k6 (Nat.le_trans h.lo hc.2)
                    unfold Mem.at_ at hl
                    rw [hr] at hl
                    simp only [Option.bind_some] at hl
                    split at hl
                    · rename_i hle
                      cases hl
                      have hns := u8s_eq hu
                      have hlen : ns.length = q.toNat := by
                        have := congrArg List.length hns
                        simp at this
                        omega
                      have hcell : ∀ j x, ns[j]? = some x → w.cell? ((⟨g.b, g.s + off, none⟩ : Addr).add j) = some (.int .u8 x) := by
                        intro j x hj
                        have hj' : j < q.toNat := by rw [← hlen]; exact (List.getElem?_eq_some_iff.1 hj).1
                        have h3 : ((r.cells.drop off).take q.toNat)[j]? = some (.int .u8 x) := by rw [hns, List.getElem?_map, hj]; rfl
                        rw [List.getElem?_take, if_pos hj', List.getElem?_drop] at h3
                        obtain ⟨v', a1, a2⟩ := k5 _ _ h3
                        rw [addr_add, cell_at k1, Nat.add_assoc, a1, a2.of_int]
                      obtain ⟨fz', hupd⟩ := upd_freeze k1 (g.s + off) q.toNat
                      have hload : ∀ (l : List Int) (a : Addr) (acc : ByteArray), (∀ j x, l[j]? = some x → w.cell? (a.add j) = some (.int .u8 x)) → (loadBytes a acc l.length).run cx.P w = .ok ⟨acc.data ++ (l.map fun n => UInt8.ofNat n.toNat).toArray⟩ w := by
                        intro l
                        induction l with
                        | nil => intro a acc _; simp [loadBytes]
                        | cons x l ih =>
                          intro a acc hh
                          have h0 : w.cell? a = some (.int .u8 x) := by
                            have := hh 0 x rfl
                            simpa [Addr.add] using this
                          have ih := ih (a.add 1) (acc.push x.toNat.toUInt8) (fun j y hy => by
                            have := hh (j + 1) y (by simpa using hy)
                            have e : (a.add 1).add j = a.add (j + 1) := by
                              unfold Addr.add
                              by_cases hj : j = 0
                              · subst hj; simp
                              · simp [hj]; omega
                            rw [e]; exact this)
                          simp only [List.length_cons, loadBytes]
                          rw [run_bind (run_load h0)]
                          simp only
                          rw [ih]
                          congr 1
                          apply ByteArray.ext
                          simp [ByteArray.push]
                      have hlb := hload ns ⟨g.b, g.s + off, none⟩ .empty hcell
                      rw [hlen] at hlb
                      have hlies : liesAt cx.P cx.P.depth e (cs.size / cx.P.cellsOf e) (g.s + off) e2 q.toNat = true := by
                        refine liesAt_bytes' j2 he ?_
                        rw [j2.2, Nat.div_one]
                        omega
                      refine ⟨ι, .string (strOf ns), w.freeze ⟨g.b, g.s + off, none⟩ q.toNat, ?_, Post.drop h ho hr hc.2 hupd b1, .string _⟩
                      have hdef : Builtin.unsafeString_ #[pt, it] ty #[.pointer (some ⟨g.b, g.s + off, none⟩), .int .i64 q] =
                          (do
                            let n ← asInt (.int .i64 q)
                            if n < 0 then runtimePanic (.error "unsafe.String: len out of range")
                            if n > IntKind.i64.max then unsupported (.unsafePointer "String: a length above the largest int")
                            if n = 0 then pure (.string .empty)
                            else if ← variablesAt ⟨g.b, g.s + off, none⟩ (← elemOf pt) n.toNat then do
                              let s ← loadBytes ⟨g.b, g.s + off, none⟩ .empty n.toNat
                              freeze ⟨g.b, g.s + off, none⟩ n.toNat
                              pure (.string s)
                            else unsupported (.unsafePointer "String: not so many bytes at ptr")) := rfl
                      rw [hdef]
                      have hmax : IntKind.i64.max = 9223372036854775807 := rfl
                      have hneg : ¬ q < 0 := by omega
                      have hbig : ¬ (9223372036854775807 : Int) < q := by omega
                      simp [asInt, asIntOf, hmax, hbig, hneg, hq0, variablesAt, shape_at k1, elemOf, Go.run_underlying hp, hlies, hlb, strOf]
                    · cases hl
              · cases hv
        · cases hv
    · cases hv
end Go.Proofs.Ytjojfpmelhaknaa.D
