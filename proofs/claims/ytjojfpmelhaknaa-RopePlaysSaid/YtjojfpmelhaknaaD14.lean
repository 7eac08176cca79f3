/-
  A deterministic reading of the program's code: what is not written stays; operations in any order.
-/
import Derived.Test.YtjojfpmelhaknaaD13
namespace Go.Proofs.Ytjojfpmelhaknaa.D
open Go.RowKit
set_option linter.unusedVariables false
set_option linter.unusedSimpArgs false

/-! ### What stays -/
structure KP (m m' : Mem) : Prop where
  ro : m'.ro = m.ro
  lo : m'.lo = m.lo
  next : m.next ≤ m'.next
  get : ∀ o, o < m.lo → o < m.next → m'.get o = m.get o
  dead : ∀ o, o < m.next → m.get o = none → m'.get o = none
theorem KP.refl (m : Mem) : KP m m := ⟨rfl, rfl, Nat.le_refl _, fun _ _ _ => rfl, fun _ _ h => h⟩
theorem KP.trans {a b c : Mem} (h : KP a b) (k : KP b c) : KP a c :=
  ⟨k.ro.trans h.ro, k.lo.trans h.lo, Nat.le_trans h.next k.next, fun o h1 h2 => (k.get o (by rw [h.lo]; exact h1) (Nat.lt_of_lt_of_le h2 h.next)).trans (h.get o h1 h2), fun o h1 h2 => k.dead o (Nat.lt_of_lt_of_le h1 h.next) (h.dead o h1 h2)⟩
theorem KP.push (m : Mem) (r : Row) : KP m (m.push r) := ⟨rfl, rfl, by simp, fun o _ h2 => by rw [Mem.get_push, if_neg (by omega)], fun o h1 h2 => by rw [Mem.get_push, if_neg (by omega)]; exact h2⟩
theorem KP.set {m : Mem} {o : Nat} (h : m.lo ≤ o) (r : Row) (hs : m.get o ≠ none) : KP m (m.set o r) := ⟨rfl, rfl, Nat.le_refl _, fun x h1 h2 => by rw [Mem.get_set, if_neg (by omega)], fun x h1 h2 => by
    rw [Mem.get_set]
    split
    · subst_vars; exact absurd h2 hs
    · exact h2⟩
theorem KP.del {m : Mem} {o : Nat} (h : m.lo ≤ o) : KP m (m.del o) := ⟨rfl, rfl, Nat.le_refl _, fun x h1 h2 => by rw [Mem.get_del, if_neg (by omega)], fun x h1 h2 => by rw [Mem.get_del]; split <;> first | rfl | exact h2⟩
theorem only_kp {m m' : Mem} {x : Option Value} {v : Value} (h : only m x = some (v, m')) : KP m m' := by
  obtain ⟨_, rfl⟩ := only_some h
  exact .refl _
theorem aop_kp {p : POp} {ρ : Operand → Value} {m m' : Mem} {v : Value} (h : aop p ρ m = some (v, m')) : KP m m' := by
  cases p <;> simp only [aop] at h <;> first
    | exact only_kp h
    | (cases h; exact .refl _)
    | skip
  · rename_i c a b
    cases hb : bool? (ρ c) with
    | none => rw [hb] at h; cases h
    | some t => rw [hb] at h; cases h; exact .refl _
  · cases h; exact .push _ _
  · unfold aBox at h
    split at h
    · cases h; exact .push _ _
    · cases h
  · unfold aLit at h
    split at h
    · cases hf : fillL _ _ _ with
      | none => rw [hf] at h; cases h
      | some l => rw [hf] at h; cases h; exact .push _ _
    · cases h
  · rename_i n g a
    unfold aLoad at h
    cases ha : addr? (ρ a) with
    | none => rw [ha] at h; cases h
    | some q =>
      rw [ha] at h
      simp only [Option.bind_some] at h
      split at h
      · cases hq : m.at_ q.1 q.2 n with
        | none => rw [hq] at h; cases h
        | some l => rw [hq] at h; cases h; exact .refl _
      · cases hq : m.ld q.1 q.2 with
        | none => rw [hq] at h; cases h
        | some l => rw [hq] at h; cases h; exact .refl _
  · rename_i n a x
    unfold aStore at h
    cases ha : addr? (ρ a) with
    | none => rw [ha] at h; cases h
    | some q =>
      rw [ha] at h
      simp only [Option.bind_some] at h
      split at h
      · cases hq : m.st q.1 q.2 (ρ x).cells.toList with
        | none => rw [hq] at h; cases h
        | some m1 =>
          rw [hq] at h; cases h
          unfold Mem.st at hq
          cases hr : m.get q.1 with
          | none => rw [hr] at hq; cases hq
          | some r =>
            rw [hr] at hq
            simp only [Option.bind_some] at hq
            split at hq
            · split at hq
              · cases hq; exact .set ‹_› _ (by rw [hr]; simp)
              · cases hq
            · cases hq
      · cases h
  · rename_i x
    unfold aBytes at h
    cases hs : str? (ρ x) with
    | none => rw [hs] at h; cases h
    | some s => rw [hs] at h; cases h; exact .push _ _
  · rename_i sz b z l c
    unfold aMake at h
    cases hl : int? (ρ l) with
    | none => rw [hl] at h; cases h
    | some q =>
      cases hc : int? (ρ c) with
      | none => rw [hl, hc] at h; cases h
      | some q2 =>
        rw [hl, hc] at h
        simp only [Option.bind_some] at h
        split at h
        · split at h
          · split at h
            · split at h
              · cases h; exact .push _ _
              · cases h
            · cases h
          · cases h
        · cases h
  · rename_i s sz b x y
    unfold aApp at h
    cases hs : aSrc s (unit sz) (ρ y) m with
    | none => rw [hs] at h; cases h
    | some q =>
      rw [hs] at h
      simp only [Option.bind_some] at h
      cases hx : slc? (ρ x) with
      | none => rw [hx] at h; cases h
      | some sv =>
        rw [hx] at h
        simp only [Option.bind_some] at h
        cases sv with
        | nil =>
          simp only at h
          split at h
          · cases h; exact .refl _
          · split at h
            · cases h; exact .push _ _
            · cases h
        | at_ o off n c =>
          simp only at h
          split at h
          · cases h; exact .refl _
          · split at h
            · split at h
              · cases hq : m.at_ o off (n * unit sz) with
                | none => rw [hq] at h; cases h
                | some l => rw [hq] at h; cases h; exact .push _ _
              · cases hr : m.get o with
                | none => rw [hr] at h; cases h
                | some r =>
                  rw [hr] at h
                  simp only [Option.bind_some] at h
                  split at h
                  · rename_i hcond
                    cases h
                    exact (KP.del hcond.1).trans (.push _ _)
                  · cases h
            · cases h
  · rename_i x n
    unfold aUStr at h
    cases hn : int? (ρ n) with
    | none => rw [hn] at h; cases h
    | some q =>
      rw [hn] at h
      simp only [Option.bind_some] at h
      split at h
      · split at h
        · split at h
          · cases h; exact .refl _
          · cases h
        · split at h
          · cases ha : addr? (ρ x) with
            | none => rw [ha] at h; cases h
            | some a =>
              rw [ha] at h
              simp only [Option.bind_some] at h
              cases hr : m.get a.1 with
              | none => rw [hr] at h; cases h
              | some r =>
                rw [hr] at h
                simp only [Option.bind_some] at h
                split at h
                · rename_i hc
                  cases hl : m.at_ a.1 a.2 q.2.toNat with
                  | none => rw [hl] at h; cases h
                  | some l =>
                    rw [hl] at h
                    simp only [Option.bind_some] at h
                    cases hu : u8s l with
                    | none => rw [hu] at h; cases h
                    | some ns => rw [hu] at h; cases h; exact KP.del hc.2
                · cases h
          · cases h
      · cases h
def KPO (O : Orc) : Prop := ∀ k a m d r, O k a m d = some r → KP m r.m
theorem floor_kp {m m1 : Mem} (h : KP (m.floor m.next) m1) : KP m (m1.floor m.lo) ∧ ∀ o, o < m.next → (m1.floor m.lo).get o = m.get o :=
  ⟨⟨h.ro, rfl, h.next, fun o _ h2 => h.get o h2 h2, h.dead⟩, fun o h2 => h.get o h2 h2⟩
theorem qOp1_kp {O : Orc} (hO : KPO O) {op : IOp} {env : Env} {m : Mem} {r : Value × Mem} (h : qOp1 O op env m = some r) : KP m r.2 := by
  have key : ∀ (k : Key) (l : List Value), ((O k l m []).bind fun o => match o.x with | .ret => (o.vals.head?).bind fun v => some (v, o.m) | _ => none) = some r → KP m r.2 := by
    intro k l h
    cases ho : O k l m [] with
    | none => rw [ho] at h; cases h
    | some o =>
      rw [ho] at h
      simp only [Option.bind_some] at h
      split at h
      · cases hv : o.vals.head? with
        | none => rw [hv] at h; cases h
        | some v => rw [hv] at h; cases h; exact hO _ _ _ _ _ ho
      · cases h
  cases op with
  | plain p => exact aop_kp h
  | call f as => exact key _ _ h
  | callV x as =>
    simp only [qOp1] at h
    cases hf : fn? (aev env x) with
    | none => rw [hf] at h; cases h
    | some c => rw [hf] at h; exact key _ _ h
  | _ => cases h

/-! ### A region's steps, in the text's order -/
structure StepQ (O : Orc) (n0 : Nat) (x : IOper × List Nat × QK) (e : Env) (m : Mem) (v : Value) (e' : Env) (m' : Mem) : Prop where
  env : e' = put e x.1.dst v
  ok : (gok x.1.guard (mask x.2.1 e) = some true ∧ qRun O x.1 x.2.2 (mask x.2.1 e) m = some (v, m')) ∨ (gok x.1.guard (mask x.2.1 e) = some false ∧ v = gone ∧ m' = m)
  chk : ∀ pan l, x.2.2 = .lone pan l → gok x.1.guard (mask x.2.1 e) = some true → chks n0 l e' m' = true
/-- A step that panics. -/
def PanQ (O : Orc) (x : IOper × List Nat × QK) (e : Env) (m : Mem) (kp : Value → Mem → Option Out) (r : Out) : Prop :=
  ∃ l v m', x.2.2 = .lone true l ∧ gok x.1.guard (mask x.2.1 e) = some true ∧ qPan1 O x.1.op (mask x.2.1 e) m = some (v, m') ∧ kp v m' = some r
theorem qDo_cases {O : Orc} {n0 : Nat} {x : IOper × List Nat × QK} {env : Env} {m : Mem} {k : Env → Mem → Option Out} {kp : Value → Mem → Option Out} {r : Out} (hg : gok x.1.guard (mask x.2.1 env) = some true) (h : qDo O n0 x.1 x.2.1 x.2.2 env m k kp = some r) :
    (∃ p, qRun O x.1 x.2.2 (mask x.2.1 env) m = some p ∧ (∀ pan l, x.2.2 = .lone pan l → chks n0 l (put env x.1.dst p.1) p.2 = true) ∧ k (put env x.1.dst p.1) p.2 = some r) ∨ PanQ O x env m kp r := by
  have other : (∀ pan l, x.2.2 ≠ .lone pan l) → ((qRun O x.1 x.2.2 (mask x.2.1 env) m).bind fun r => k (put env x.1.dst r.1) r.2) = some r → ∃ p, qRun O x.1 x.2.2 (mask x.2.1 env) m = some p ∧ (∀ pan l, x.2.2 = .lone pan l → chks n0 l (put env x.1.dst p.1) p.2 = true) ∧ k (put env x.1.dst p.1) p.2 = some r := by
    intro hn h
    cases hq : qRun O x.1 x.2.2 (mask x.2.1 env) m with
    | none => rw [hq] at h; cases h
    | some p => rw [hq] at h; exact ⟨p, rfl, fun pan l e => absurd e (hn pan l), h⟩
  unfold qDo at h
  split at h
  · rename_i pan chk hq
    cases hq1 : qOp1 O x.1.op (mask x.2.1 env) m with
    | some p =>
      rw [hq1] at h
      simp only at h
      split at h
      · exact .inl ⟨p, by rw [hq]; exact hq1, fun pan l e => by rw [hq] at e; cases e; assumption, h⟩
      · cases h
    | none =>
      rw [hq1] at h
      simp only at h
      split at h
      · rename_i hp
        subst hp
        cases hq2 : qPan1 O x.1.op (mask x.2.1 env) m with
        | none => rw [hq2] at h; cases h
        | some p => rw [hq2] at h; exact .inr ⟨chk, p.1, p.2, hq, hg, hq2, h⟩
      · cases h
  · rename_i hn
    exact .inl (other hn h)
theorem qOps_steps {O : Orc} {n0 : Nat} : ∀ {ops : List (IOper × List Nat × QK)} {env : Env} {m : Mem} {k : Env → Mem → Option Out} {kp : Value → Mem → Option Out} {r : Out}, qOps O n0 ops env m k kp = some r →
    ∃ (lim : Nat) (es : Nat → Env) (ms : Nat → Mem) (vs : Nat → Value), lim ≤ ops.length ∧ es 0 = env ∧ ms 0 = m ∧ (∀ j x, j < lim → ops[j]? = some x → StepQ O n0 x (es j) (ms j) (vs j) (es (j + 1)) (ms (j + 1))) ∧
      ((lim = ops.length ∧ k (es lim) (ms lim) = some r) ∨ ∃ x, ops[lim]? = some x ∧ PanQ O x (es lim) (ms lim) kp r) := by
  intro ops
  induction ops with
  | nil => intro env m k kp r h; exact ⟨0, fun _ => env, fun _ => m, fun _ => undef, Nat.le_refl _, rfl, rfl, fun j x _ hx => by simp at hx, .inl ⟨rfl, h⟩⟩
  | cons o t ih =>
    intro env m k kp r h
    have more : ∀ (v : Value) (m1 : Mem), StepQ O n0 o env m v (put env o.1.dst v) m1 → qOps O n0 t (put env o.1.dst v) m1 k kp = some r → ∃ (lim : Nat) (es : Nat → Env) (ms : Nat → Mem) (vs : Nat → Value), lim ≤ (o :: t).length ∧ es 0 = env ∧ ms 0 = m ∧ (∀ j x, j < lim → (o :: t)[j]? = some x → StepQ O n0 x (es j) (ms j) (vs j) (es (j + 1)) (ms (j + 1))) ∧
        ((lim = (o :: t).length ∧ k (es lim) (ms lim) = some r) ∨ ∃ x, (o :: t)[lim]? = some x ∧ PanQ O x (es lim) (ms lim) kp r) := by
      intro v m1 hs h
      obtain ⟨lim, es, ms, vs, hl, e0, m0, hst, hk⟩ := ih h
      refine ⟨lim + 1, fun j => match j with | 0 => env | j + 1 => es j, fun j => match j with | 0 => m | j + 1 => ms j, fun j => match j with | 0 => v | j + 1 => vs j, by simpa using hl, rfl, rfl, ?_, ?_⟩
      · intro j x hj hx
        cases j with
        | zero =>
          simp at hx; subst hx
          show StepQ O n0 o env m v (es 0) (ms 0)
          rw [e0, m0]; exact hs
        | succ j => exact hst j x (by omega) (by simpa using hx)
      · rcases hk with ⟨h1, h2⟩ | ⟨x, h1, h2⟩
        · exact .inl ⟨by simp [h1], h2⟩
        · exact .inr ⟨x, by simpa using h1, h2⟩
    simp only [qOps, qOp] at h
    rcases guarded_gok h with ⟨g1, g2⟩ | ⟨g1, g2⟩
    · rcases qDo_cases (x := o) g1 g2 with ⟨p, h1, h2, h3⟩ | h1
      · exact more p.1 p.2 ⟨rfl, .inl ⟨g1, h1⟩, fun pan l e _ => h2 pan l e⟩ h3
      · exact ⟨0, fun _ => env, fun _ => m, fun _ => undef, Nat.zero_le _, rfl, rfl, fun j x hj => by omega, .inr ⟨o, rfl, h1⟩⟩
    · exact more gone m ⟨rfl, .inr ⟨g1, rfl, rfl⟩, fun _ _ _ h => by rw [g1] at h; cases h⟩ g2
theorem qRun_kp {O : Orc} (hO : KPO O) {o : IOper} {q : QK} {env : Env} {m : Mem} {r : Value × Mem} (h : qRun O o q env m = some r) : KP m r.2 := by
  cases q with
  | pure => exact qOp1_kp hO h
  | lone => exact qOp1_kp hO h
  | peek => exact qOp1_kp hO h
  | quiet =>
    simp only [qRun] at h
    cases hq : qOp1 O o.op env (m.floor m.next) with
    | none => rw [hq] at h; cases h
    | some p => rw [hq] at h; cases h; exact (floor_kp (qOp1_kp hO hq)).1
theorem StepQ.kp {O : Orc} {n0 : Nat} (hO : KPO O) {x : IOper × List Nat × QK} {e e' : Env} {m m' : Mem} {v : Value} (h : StepQ O n0 x e m v e' m') : KP m m' := by
  rcases h.ok with ⟨_, hq⟩ | ⟨_, _, rfl⟩
  · exact qRun_kp hO hq
  · exact .refl _
/-- A step that is not alone leaves what was there. -/
theorem isP_mem {p : POp} (hp : isP p = true) {ρ : Operand → Value} {m m' : Mem} {v : Value} (h : aop p ρ m = some (v, m')) : m' = m ∧ ∀ m2, aop p ρ m2 = some (v, m2) := by
  cases p <;> first
    | (simp [isP] at hp; done)
    | (simp only [aop] at h ⊢; obtain ⟨a, rfl⟩ := only_some h; exact ⟨rfl, fun m2 => by rw [a]; rfl⟩)
    | (simp only [aop] at h ⊢; cases h; exact ⟨rfl, fun _ => rfl⟩)
    | (simp only [aop] at h ⊢
       cases hb : bool? (ρ _) with
       | none => rw [hb] at h; cases h
       | some t => rw [hb] at h; cases h; exact ⟨rfl, fun _ => rfl⟩)
theorem isRd_mem {op : IOp} (hp : isRd op = true) : ∃ n g a, op = .plain (.load n g a) := by
  unfold isRd at hp
  split at hp
  · exact ⟨_, _, _, rfl⟩
  · cases hp
theorem load_mem {n : Nat} {g : Bool} {a : Operand} {ρ : Operand → Value} {m m' : Mem} {v : Value} (h : aop (.load n g a) ρ m = some (v, m')) : m' = m ∧ ∃ o i, ρ a = .pointer (some ⟨o, i, none⟩) ∧ ∀ m2 : Mem, m2.get o = m.get o → aop (.load n g a) ρ m2 = some (v, m2) := by
  simp only [aop, aLoad] at h ⊢
  cases ha : addr? (ρ a) with
  | none => rw [ha] at h; cases h
  | some q =>
    rw [ha] at h
    have hsh : ρ a = .pointer (some ⟨q.1, q.2, none⟩) := by
      unfold addr? at ha
      split at ha
      · rename_i e; cases ha; exact e
      · cases ha
    simp only [Option.bind_some] at h ⊢
    split at h
    · rename_i hg
      simp only [if_pos hg]
      cases hq : m.at_ q.1 q.2 n with
      | none => rw [hq] at h; cases h
      | some l =>
        rw [hq] at h
        simp only [Option.bind_some, Option.some.injEq, Prod.mk.injEq] at h
        refine ⟨h.2.symm, q.1, q.2, hsh, fun m2 h2 => ?_⟩
        have : m2.at_ q.1 q.2 n = some l := by
          unfold Mem.at_ at hq ⊢
          rw [h2]; exact hq
        rw [this]
        simp only [Option.bind_some, h.1]
    · rename_i hg
      simp only [if_neg hg]
      cases hq : m.ld q.1 q.2 with
      | none => rw [hq] at h; cases h
      | some l =>
        rw [hq] at h
        simp only [Option.bind_some, Option.some.injEq, Prod.mk.injEq] at h
        refine ⟨h.2.symm, q.1, q.2, hsh, fun m2 h2 => ?_⟩
        have : m2.ld q.1 q.2 = some l := by
          unfold Mem.ld at hq ⊢
          rw [h2]; exact hq
        rw [this]
        simp only [Option.bind_some, h.1]
theorem StepQ.mem {O : Orc} {n0 : Nat} (hO : KPO O) {x : IOper × List Nat × QK} {e e' : Env} {m m' : Mem} {v : Value} (hx : x.2.2 = .pure → isPO x.1.op = true) (hx2 : x.2.2 = .peek → isRd x.1.op = true) (hw : isLone x.2.2 = false) (h : StepQ O n0 x e m v e' m') : ∀ o, o < m.next → m'.get o = m.get o := by
  rcases h.ok with ⟨_, hq⟩ | ⟨_, _, rfl⟩
  · cases hk : x.2.2 with
    | lone pan chk => rw [hk] at hw; cases hw
    | peek =>
      obtain ⟨n, g, a, hop⟩ := isRd_mem (hx2 hk)
      rw [hk] at hq
      simp only [qRun, qOp1, hop] at hq
      have := (load_mem hq).1
      subst this
      exact fun _ _ => rfl
    | pure =>
      have hp := hx hk
      rw [hk] at hq
      simp only [qRun] at hq
      cases hop : x.1.op with
      | plain p =>
        rw [hop] at hp hq
        simp only [qOp1] at hq
        have := (isP_mem (p := p) hp hq).1
        subst this
        exact fun _ _ => rfl
      | _ => rw [hop] at hp; simp [isPO] at hp
    | quiet =>
      rw [hk] at hq
      simp only [qRun] at hq
      cases hq1 : qOp1 O x.1.op (mask x.2.1 e) (m.floor m.next) with
      | none => rw [hq1] at hq; cases hq
      | some p => rw [hq1] at hq; cases hq; exact (floor_kp (qOp1_kp hO hq1)).2
  · exact fun _ _ => rfl

/-! ### One quiet operation -/
theorem Rel.floor {cx : Cx} {ι : Inj} {m : Mem} {w : World} (h : Rel cx ι m w) {n : Nat} (hn : cx.lo ≤ n) : Rel cx ι (m.floor n) w :=
  ⟨h.below, h.base, hn, h.lonext, h.tight, h.lt, h.own, h.obj, h.ro⟩
theorem qOp1_sound {cx : Cx} {C : Code?} {O : Orc} (hO : OS cx C O) {N : Nat} {ι : Inj} {env : Env} {m m1 : Mem} {a : Act} {w : World} {o : Oper} {op : IOp} {v : Value} {Q : Exit → Act → World → Prop} {next : Act → World → Prop}
    (hr : Rel cx ι m w) (he : ERel ι N env a.tmps) (hc : compOp cx.P o.type o.op = some op) (h : qOp1 O op env m = some (v, m1)) (hn : ∀ ι' v' w', Post cx ι m w ι' m1 w' → VRel ι' v v' → next (a.put o.dst v') w') :
    o.wp cx.P a w next Q := by
  have hf := hr
  have key : ∀ (f : FuncId) (l : List Value) (vs : Array Value), (execOp a.eval o).run cx.P w = (callFunc f vs).run cx.P w → LRel ι l vs.toList → ((O (.call f) l m []).bind fun o => match o.x with | .ret => (o.vals.head?).bind fun v => some (v, o.m) | _ => none) = some (v, m1) → o.wp cx.P a w next Q := by
    intro f l vs hrun hl h
    cases ho : O (.call f) l m [] with
    | none => rw [ho] at h; cases h
    | some out =>
      rw [ho] at h
      simp only [Option.bind_some] at h
      refine goes_upon hrun (hO.call f l _ out ho ι w vs hf hl) ?_ ?_ ?_
      · rintro v' w' ⟨ι', hp, hx, u, hu, hv⟩
        rw [hx, hu] at h
        simp at h
        obtain ⟨rfl, rfl⟩ := h
        exact hn ι' v' w' hp hv
      · rintro ch w' ⟨ι', hp, u, u', hx, rfl, hv⟩
        rw [hx] at h; cases h
      · rintro w' ⟨ι', hp, hf⟩
        exact hf
  unfold compOp at hc
  split at hc
  · rename_i f as ts heq
    cases hc
    refine key f _ _ ?_ (eval_list he as) h
    unfold execOp
    rw [heq]
    simp [resolve, Act.eval, Deferred.ofValue, invoke, bind, Sem.bind, pure]
  · rename_i t as ts heq
    cases hc
    simp only [qOp1] at h
    cases hf' : fn? (aev env (.tmp t)) with
    | none => rw [hf'] at h; cases h
    | some c =>
      rw [hf'] at h
      simp only [Option.bind_some] at h
      have hv := he.ev (.tmp t)
      have hsh : ∃ f x y, aev env (.tmp t) = .func (.func f) x y ∧ c = (f, x.toList, y.toList) := by
        unfold fn? at hf'
        split at hf'
        · cases hf'; exact ⟨_, _, _, by assumption, rfl⟩
        · cases hf'
      obtain ⟨f, x, y, he', rfl⟩ := hsh
      rw [he'] at hv
      obtain ⟨x', y', e, p1, p2, p3, p4⟩ := hv.of_func
      refine key f _ (x' ++ as.map a.eval ++ y') ?_ ?_ h
      · unfold execOp
        rw [heq]
        simp [resolve, e, Deferred.ofValue, invoke, bind, Sem.bind, pure]
      · have h1 := lrel_of_arr p1 p2
        have h2 := lrel_of_arr p3 p4
        have h3 := eval_list he as
        simpa using (h1.append h3).append h2
  · cases hc; cases h
  · cases hc; cases h
  · cases hc; cases h
  · cases hp : compileP cx.P o.type o.op with
    | none => rw [hp] at hc; cases hc
    | some p =>
      rw [hp] at hc
      cases hc
      obtain ⟨ι', nx, v', w', r1, r2, r3, r4⟩ := aop_sound hf he hp h
      unfold Oper.wp
      rw [r1]
      rcases r2 with rfl | ⟨rfl, rfl⟩
      · rw [Oper.upon_value]; exact hn ι' _ w' r3 r4
      · rw [Oper.upon_skip]; exact hn ι' _ w' r3 r4
/-- A call that panics. -/
theorem qPan1_sound {cx : Cx} {C : Code?} {O : Orc} (hO : OS cx C O) {N : Nat} {ι : Inj} {env : Env} {m m1 : Mem} {a : Act} {w : World} {o : Oper} {op : IOp} {v : Value} {Q : Exit → Act → World → Prop} {next : Act → World → Prop}
    (hr : Rel cx ι m w) (he : ERel ι N env a.tmps) (hc : compOp cx.P o.type o.op = some op) (h : qPan1 O op env m = some (v, m1)) (hn : ∀ ι' v' w', Post cx ι m w ι' m1 w' → VRel ι' v v' → Q (.panic [{ v := v', recovered := false }]) a w') :
    o.wp cx.P a w next Q := by
  have key : ∀ (f : FuncId) (l : List Value) (vs : Array Value), (execOp a.eval o).run cx.P w = (callFunc f vs).run cx.P w → LRel ι l vs.toList → ((O (.call f) l m []).bind fun o => match o.x with | .panic v => some (v, o.m) | _ => none) = some (v, m1) → o.wp cx.P a w next Q := by
    intro f l vs hrun hl h
    cases ho : O (.call f) l m [] with
    | none => rw [ho] at h; cases h
    | some out =>
      rw [ho] at h
      simp only [Option.bind_some] at h
      refine goes_upon hrun (hO.call f l _ out ho ι w vs hr hl) ?_ ?_ ?_
      · rintro v' w' ⟨ι', hp, hx, u, hu, hv⟩
        rw [hx] at h; cases h
      · rintro ch w' ⟨ι', hp, u, u', hx, rfl, hv⟩
        rw [hx] at h
        simp only [Option.some.injEq, Prod.mk.injEq] at h
        obtain ⟨rfl, rfl⟩ := h
        exact hn ι' _ w' hp hv
      · rintro w' ⟨ι', hp, hf⟩
        exact hf
  unfold compOp at hc
  split at hc
  · rename_i f as ts heq
    cases hc
    refine key f _ _ ?_ (eval_list he as) h
    unfold execOp
    rw [heq]
    simp [resolve, Act.eval, Deferred.ofValue, invoke, bind, Sem.bind, pure]
  · rename_i t as ts heq
    cases hc
    simp only [qPan1] at h
    cases hf' : fn? (aev env (.tmp t)) with
    | none => rw [hf'] at h; cases h
    | some c =>
      rw [hf'] at h
      simp only [Option.bind_some] at h
      have hv := he.ev (.tmp t)
      have hsh : ∃ f x y, aev env (.tmp t) = .func (.func f) x y ∧ c = (f, x.toList, y.toList) := by
        unfold fn? at hf'
        split at hf'
        · cases hf'; exact ⟨_, _, _, by assumption, rfl⟩
        · cases hf'
      obtain ⟨f, x, y, he', rfl⟩ := hsh
      rw [he'] at hv
      obtain ⟨x', y', e, p1, p2, p3, p4⟩ := hv.of_func
      refine key f _ (x' ++ as.map a.eval ++ y') ?_ ?_ h
      · unfold execOp
        rw [heq]
        simp [resolve, e, Deferred.ofValue, invoke, bind, Sem.bind, pure]
      · have h1 := lrel_of_arr p1 p2
        have h2 := lrel_of_arr p3 p4
        have h3 := eval_list he as
        simpa using (h1.append h3).append h2
  · cases hc; cases h
  · cases hc; cases h
  · cases hc; cases h
  · cases hp : compileP cx.P o.type o.op with
    | none => rw [hp] at hc; cases hc
    | some p => rw [hp] at hc; cases hc; cases h
end Go.Proofs.Ytjojfpmelhaknaa.D
