/-
  The second reading: what it answers, the first answers.
-/
import Derived.Test.YtjojfpmelhaknaaV4
namespace Go.Proofs.Ytjojfpmelhaknaa.D
open Go.RowKit
set_option linter.unusedVariables false
set_option linter.unusedSimpArgs false

/-! ### What is fixed when a marked call ends -/
theorem chunk_flat {sz : Nat} : ∀ {els : List (List Value)}, (∀ e ∈ els, e.length = sz) → chunk sz els.length els.flatten = els := by
  intro els
  induction els with
  | nil => intro _; rfl
  | cons e t ih =>
    intro h
    have he := h e (by simp)
    simp only [List.length_cons, chunk, List.flatten_cons]
    rw [List.take_append_of_le_length (by omega), List.take_of_length_le (by omega), List.drop_append_of_le_length (by omega), List.drop_of_length_le (by omega), List.nil_append, ih (fun x hx => h x (by simp [hx]))]
section
variable {ι : Im} {Φ : Pin} {m dm : Mem}
theorem vmap_get {f : Value → Value} {l : List Value} {i : Nat} {x : Value} (h : (l.map f)[i]? = some x) : ∃ u, l[i]? = some u ∧ x = f u := by
  rw [List.getElem?_map] at h
  cases hu : l[i]? with
  | none => rw [hu] at h; cases h
  | some u => rw [hu] at h; cases h; exact ⟨u, rfl, rfl⟩
theorem frz_slice_FR {Φ' : Pin} {k o off n c q : Nat} {r dr : Row} (hd : Φ' q = some dr) (hs : r.sz = dr.sz) (hl : LR ι Φ r.cells dr.cells) (hle : off + n * unit r.sz ≤ r.cells.length) (ih : ∀ {v d : Value}, R ι Φ v d → FR Φ' (frz k 0 m v) d) :
    FR Φ' (fz (unit r.sz) (c == n) (chunk (unit r.sz) n ((r.cells.map (frz k 0 m)).drop off))) (.slice (some ⟨q, off, none⟩) n c) := by
  refine .fz (fz?_fz _ _ _) hd (chunk_len _ _ _).symm (by rw [hs]) (fun h => by simpa using h) (chunk_mem (by simp; omega)) (by rw [← hl.1]; exact hle) (fun i e j x y a b c => ?_)
  have := chunk_get a b
  rw [List.getElem?_drop] at this
  obtain ⟨u, hu, rfl⟩ := vmap_get this
  exact ih (hl.2 _ _ _ hu (by rw [← c]; congr 1; omega))
theorem frz_ptr_FR {Φ' : Pin} {k o off q : Nat} {r dr : Row} (hd : Φ' q = some dr) (hl : LR ι Φ r.cells dr.cells) (ih : ∀ {v d : Value}, R ι Φ v d → FR Φ' (frz k 0 m v) d) :
    FR Φ' (fp (r.cells.map (frz k 0 m)) off) (.pointer (some ⟨q, off, none⟩)) := by
  have := FR.fp (Φ := Φ') (b := 0) (fp?_fp (r.cells.map (frz k 0 m)) off) hd (by simp [hl.1]) (fun i x y a b => by
    obtain ⟨u, hu, rfl⟩ := vmap_get a
    rw [Nat.zero_add] at b
    exact ih (hl.2 _ _ _ hu b))
  rwa [Nat.zero_add] at this
theorem frz_FR (hm : MM ι Φ m dm) {Φ' : Pin} (hp : Pin.le Φ Φ') (hpin : ∀ o q r dr, ι o = some q → m.get o = some r → dm.get q = some dr → Φ' q = some dr) : ∀ (k : Nat) {v d : Value}, R ι Φ v d → FR Φ' (frz k 0 m v) d := by
  intro k
  induction k with
  | zero => intro v d _; exact .unk d
  | succ k ih =>
    intro v d h
    cases h with
    | unk d => exact .unk d
    | gone => exact .unk _
    | fro ht h =>
      have : frz (k + 1) 0 m v = v := by
        cases v <;> simp [isTag] at ht
        simp [frz, ht]
      rw [this]; exact h.mono hp
    | base h =>
      cases v with
      | pointer a => cases a with | none => exact .base h | some a => simp [base] at h
      | slice a n c => cases a with | none => simp only [frz]; rw [if_pos h]; exact .base h | some a => simp [base] at h
      | agg => simp [base] at h
      | tuple => simp [base] at h
      | iface => simp [base] at h
      | func => simp [base] at h
      | _ => simp only [frz]; rw [if_pos h]; exact .base h
    | @ptr o off q ho =>
      simp only [frz, Nat.not_lt_zero, if_false]
      cases hr : m.get o with
      | none => exact .unk _
      | some r =>
        obtain ⟨dr, a1, a2, a3, _⟩ := hm.live ho hr
        exact frz_ptr_FR (o := o) (hpin o q r dr ho hr a1) a3 ih
    | @slice o off n c q ho =>
      simp only [frz, Nat.not_lt_zero, if_false]
      cases hr : m.get o with
      | none => exact .unk _
      | some r =>
        obtain ⟨dr, a1, a2, a3, _⟩ := hm.live ho hr
        simp only
        split
        · exact frz_slice_FR (o := o) (hpin o q r dr ho hr a1) a2 a3 ‹_› ih
        · exact .unk _
    | func h1 h2 h3 h4 =>
      refine .func (by simpa using h1) (fun i u v a b => ?_) (by simpa using h3) (fun i u v a b => ?_)
      · simp only [List.getElem?_toArray] at a; obtain ⟨w, hw, rfl⟩ := vmap_get a
        exact ih (h2 i w v (by simpa using hw) b)
      · simp only [List.getElem?_toArray] at a; obtain ⟨w, hw, rfl⟩ := vmap_get a
        exact ih (h4 i w v (by simpa using hw) b)
    | iface ht h =>
      simp only [frz, ht, Bool.false_eq_true, if_false]
      exact .iface ht (ih h)
    | agg h1 h2 =>
      refine .agg (by simpa using h1) (fun i u v a b => ?_)
      simp only [List.getElem?_toArray] at a; obtain ⟨w, hw, rfl⟩ := vmap_get a
      exact ih (h2 i w v (by simpa using hw) b)
    | tuple h1 h2 =>
      simp only [frz]
      split
      · exact .unk _
      · refine .tuple (by simpa using h1) (fun i u v a b => ?_)
        simp only [List.getElem?_toArray] at a; obtain ⟨w, hw, rfl⟩ := vmap_get a
        exact ih (h2 i w v (by simpa using hw) b)
theorem frz_R (hm : MM ι Φ m dm) {Φ' : Pin} (hp : Pin.le Φ Φ') (hpin : ∀ o q r dr, ι o = some q → m.get o = some r → dm.get q = some dr → Φ' q = some dr) {n0 : Nat} {ι0 : Im} (h0 : ∀ o q, ι o = some q → o < n0 → ι0 o = some q) : ∀ (k : Nat) {v d : Value}, R ι Φ v d → R ι0 Φ' (frz k n0 m v) d := by
  intro k
  induction k with
  | zero => intro v d _; exact .unk d
  | succ k ih =>
    intro v d h
    cases h with
    | unk d => exact .unk d
    | gone => exact .unk _
    | fro ht h =>
      have : frz (k + 1) n0 m v = v := by
        cases v <;> simp [isTag] at ht
        simp [frz, ht]
      rw [this]; exact .fro ht (h.mono hp)
    | base h =>
      cases v with
      | pointer a => cases a with | none => exact .base h | some a => simp [base] at h
      | slice a n c => cases a with | none => simp only [frz]; rw [if_pos h]; exact .base h | some a => simp [base] at h
      | agg => simp [base] at h
      | tuple => simp [base] at h
      | iface => simp [base] at h
      | func => simp [base] at h
      | _ => simp only [frz]; rw [if_pos h]; exact .base h
    | @ptr o off q ho =>
      simp only [frz]
      split
      · exact .ptr (h0 o q ho ‹_›)
      · cases hr : m.get o with
        | none => exact .unk _
        | some r =>
          obtain ⟨dr, a1, a2, a3, _⟩ := hm.live ho hr
          exact (frz_ptr_FR (o := o) (hpin o q r dr ho hr a1) a3 (frz_FR hm hp hpin k)).toR
    | @slice o off n c q ho =>
      simp only [frz]
      split
      · exact .slice (h0 o q ho ‹_›)
      · cases hr : m.get o with
        | none => exact .unk _
        | some r =>
          obtain ⟨dr, a1, a2, a3, _⟩ := hm.live ho hr
          simp only
          split
          · exact (frz_slice_FR (o := o) (hpin o q r dr ho hr a1) a2 a3 ‹_› (frz_FR hm hp hpin k)).toR
          · exact .unk _
    | func h1 h2 h3 h4 =>
      refine .func (by simpa using h1) (fun i u v a b => ?_) (by simpa using h3) (fun i u v a b => ?_)
      · simp only [List.getElem?_toArray] at a; obtain ⟨w, hw, rfl⟩ := vmap_get a
        exact ih (h2 i w v (by simpa using hw) b)
      · simp only [List.getElem?_toArray] at a; obtain ⟨w, hw, rfl⟩ := vmap_get a
        exact ih (h4 i w v (by simpa using hw) b)
    | iface ht h =>
      simp only [frz, ht, Bool.false_eq_true, if_false]
      exact .iface ht (ih h)
    | agg h1 h2 =>
      refine .agg (by simpa using h1) (fun i u v a b => ?_)
      simp only [List.getElem?_toArray] at a; obtain ⟨w, hw, rfl⟩ := vmap_get a
      exact ih (h2 i w v (by simpa using hw) b)
    | tuple h1 h2 =>
      simp only [frz]
      split
      · exact .unk _
      · refine .tuple (by simpa using h1) (fun i u v a b => ?_)
        simp only [List.getElem?_toArray] at a; obtain ⟨w, hw, rfl⟩ := vmap_get a
        exact ih (h2 i w v (by simpa using hw) b)
end

/-! ### Control -/
def ER (ι : Im) (Φ : Pin) (env denv : Env) : Prop := ∀ t, R ι Φ (env t) (denv t)
inductive DR (ι : Im) (Φ : Pin) : List Dfr → List Dfr → Prop
  | nil : DR ι Φ [] []
  | cons {f : FuncId} {a a' : List Value} {t t' : List Dfr} (h : LR ι Φ a a') (k : DR ι Φ t t') : DR ι Φ (⟨f, a⟩ :: t) (⟨f, a'⟩ :: t')
inductive XR (ι : Im) (Φ : Pin) : Ex → Ex → Prop
  | normal : XR ι Φ .normal .normal
  | exit (id : Nat) : XR ι Φ (.exit id) (.exit id)
  | ret : XR ι Φ .ret .ret
  | panic {v d : Value} (h : R ι Φ v d) : XR ι Φ (.panic v) (.panic d)
inductive PR (ι : Im) (Φ : Pin) : Option Value → Option Value → Prop
  | none : PR ι Φ none none
  | some {v d : Value} (h : R ι Φ v d) : PR ι Φ (some v) (some d)
inductive KR (ι : Im) (Φ : Pin) : Key → Key → Prop
  | call (f : FuncId) : KR ι Φ (.call f) (.call f)
  | loop (l : Nat) : KR ι Φ (.loop l) (.loop l)
  | dcall (f : FuncId) {p p' : Option Value} (h : PR ι Φ p p') : KR ι Φ (.dcall f p) (.dcall f p')
structure OutR (ι : Im) (Φ : Pin) (o o' : Out) : Prop where
  x : XR ι Φ o.x o'.x
  vals : LR ι Φ o.vals o'.vals
  d : DR ι Φ o.d o'.d
def Res (ι : Im) (Φ : Pin) (m dm : Mem) (r : Out) (y : Option Out) : Prop := ∃ dr ι' Φ', y = some dr ∧ OutR ι' Φ' r dr ∧ Step2 ι Φ m dm ι' Φ' r.m dr.m
def KSim (ι : Im) (Φ : Pin) (k dk : Kont) : Prop := ∀ ι' Φ' x env m d dx denv dm dd r, Im.le ι ι' → Pin.le Φ Φ' → MM ι' Φ' m dm → XR ι' Φ' x dx → ER ι' Φ' env denv → DR ι' Φ' d dd → k x env m d = some r → Res ι' Φ' m dm r (dk dx denv dm dd)
def OSim (O dO : Orc) : Prop := ∀ ι Φ k a m d dk da dm dd r, MM ι Φ m dm → KR ι Φ k dk → LR ι Φ a da → DR ι Φ d dd → O k a m d = some r → Res ι Φ m dm r (dO dk da dm dd)
theorem DR.mono {ι ι' : Im} {Φ Φ' : Pin} (hi : Im.le ι ι') (hl : Pin.le Φ Φ') {d d' : List Dfr} (h : DR ι Φ d d') : DR ι' Φ' d d' := by
  induction h with
  | nil => exact .nil
  | cons h _ ih => exact .cons (h.mono hi hl) ih
theorem PR.mono {ι ι' : Im} {Φ Φ' : Pin} (hi : Im.le ι ι') (hl : Pin.le Φ Φ') {d d' : Option Value} (h : PR ι Φ d d') : PR ι' Φ' d d' := by
  cases h with
  | none => exact .none
  | some h => exact .some (h.mono hi hl)
theorem ER.mono {ι ι' : Im} {Φ Φ' : Pin} (hi : Im.le ι ι') (hl : Pin.le Φ Φ') {e e' : Env} (h : ER ι Φ e e') : ER ι' Φ' e e' := fun t => (h t).mono hi hl
theorem KSim.mono {ι ι' : Im} {Φ Φ' : Pin} (hi : Im.le ι ι') (hl : Pin.le Φ Φ') {k dk : Kont} (h : KSim ι Φ k dk) : KSim ι' Φ' k dk := fun ι2 Φ2 x env m d dx denv dm dd r a b => h ι2 Φ2 x env m d dx denv dm dd r (hi.trans a) (hl.trans b)
theorem Res.after {ι ι1 : Im} {Φ Φ1 : Pin} {m m1 dm dm1 : Mem} (h0 : MM ι Φ m dm) (h : Step2 ι Φ m dm ι1 Φ1 m1 dm1) {r : Out} {y : Option Out} (k : Res ι1 Φ1 m1 dm1 r y) : Res ι Φ m dm r y := by
  obtain ⟨dr, ι', Φ', a, b, c⟩ := k
  exact ⟨dr, ι', Φ', a, b, h.trans h0 c⟩
section
variable {ι : Im} {Φ : Pin} {m dm : Mem} {env denv : Env} {d dd : List Dfr}
theorem ER.put (h : ER ι Φ env denv) {v dv : Value} (hv : R ι Φ v dv) (dst : Option Nat) : ER ι Φ (put env dst v) (put denv dst dv) := by
  cases dst with
  | none => exact h
  | some t => intro x; simp only [D.put]; split <;> first | exact hv | exact h x
theorem ER.ev (h : ER ι Φ env denv) (x : Operand) : R ι Φ (aev env x) (aev denv x) := by
  cases x with
  | tmp t => exact h t
  | const v =>
    simp only [aev]
    split
    · exact constOk_R ‹_›
    · exact .unk _
  | global g => exact .unk _
  | func f => exact .func rfl (fun i u v a _ => by simp at a) rfl (fun i u v a _ => by simp at a)
theorem ER.undef : ER ι Φ (fun _ => undef) (fun _ => undef) := fun _ => .unk _
theorem ER.unpackI {vals vals' : List Value} (h : LR ι Φ vals vals') : ∀ (keep : List Nat) (i : Nat), ER ι Φ (unpackI vals keep i) (unpackI vals' keep i) := by
  intro keep
  induction keep with
  | nil => intro i t; exact .unk _
  | cons x ts ih =>
    intro i t
    simp only [D.unpackI]
    split
    · simp only [List.getD_eq_getElem?_getD]
      cases hu : vals[i]? with
      | none =>
        exact .unk _
      | some u =>
        obtain ⟨v, a, b⟩ := h.get hu
        rw [a]; exact b
    · exact ih (i + 1) t
theorem ER.unpack {vals vals' : List Value} (h : LR ι Φ vals vals') (keep : List Nat) : ER ι Φ (unpack keep vals) (unpack keep vals') := ER.unpackI h keep 0
theorem ER.envOf {vals vals' : List Value} (h : LR ι Φ vals vals') : ER ι Φ (envOf vals) (envOf vals') := by
  induction vals generalizing vals' with
  | nil => rw [h.nil_inv]; intro t; exact .unk _
  | cons v l ih =>
    obtain ⟨v', l', rfl, a, b⟩ := h.cons_inv
    intro t
    cases t with
    | zero => exact a
    | succ t => exact ih b t
theorem ER.mask (h : ER ι Φ env denv) (rs : List Nat) : ER ι Φ (mask rs env) (mask rs denv) := by
  intro t
  simp only [D.mask]
  split
  · exact h t
  · exact .unk _
theorem ER.keep (h : ER ι Φ env denv) (keep : List Nat) : LR ι Φ (keep.map env) (keep.map denv) := by
  induction keep with
  | nil => exact .nil
  | cons t ts ih => exact .cons (h t) ih
theorem ER.maps (h : ER ι Φ env denv) (as : List Operand) : LR ι Φ (as.map (aev env)) (as.map (aev denv)) := lr_map h.ev as
theorem bind_res {α : Type} {x dx : Option α} {f g : α → Option Out} {r : Out} (h : x.bind f = some r) (hx : ∀ a, x = some a → dx = some a) (k : ∀ a, x = some a → f a = some r → Res ι Φ m dm r (g a)) : Res ι Φ m dm r (dx.bind g) := by
  cases x with
  | none => cases h
  | some a => rw [hx a rfl]; exact k a rfl h
theorem isGone_R {v dv : Value} (h : R ι Φ v dv) (hg : isGone v = true) : isGone dv = true := by
  unfold isGone at hg
  split at hg
  · cases h with
    | gone => rfl
    | base h => simp [base] at h
    | fro ht _ => simp [isTag] at ht
  · cases hg
theorem guarded_res {g : List (Nat × Bool)} {a b da db : Option Out} {r : Out} (he : ER ι Φ env denv) (ha : a = some r → Res ι Φ m dm r da) (hb : b = some r → Res ι Φ m dm r db) (h : guarded g env a b = some r) : Res ι Φ m dm r (guarded g denv da db) := by
  induction g with
  | nil => exact ha h
  | cons p t ih =>
    obtain ⟨x, want⟩ := p
    unfold guarded at h ⊢
    refine bind_res h (fun c hc => (he x).bool? hc) (fun c _ h => ?_)
    split at h
    · rw [if_pos ‹_›]; exact ih h
    · rw [if_neg ‹_›]
      cases hl : t.getLast? with
      | none => rw [hl] at h; exact hb h
      | some q =>
        rw [hl] at h
        simp only at h ⊢
        split at h
        · rw [if_pos (isGone_R (he q.1) ‹_›)]; exact hb h
        · cases h
theorem thenK_res (hm : MM ι Φ m dm) {o o' : Out} (ho : OutR ι Φ o o') (hom : MM ι Φ o.m o'.m) {dst : Option Nat} (he : ER ι Φ env denv) (hd : DR ι Φ d dd) {k dk : Kont} (hk : KSim ι Φ k dk) {r : Out} (h : thenK o dst env d k = some r) : Res ι Φ o.m o'.m r (thenK o' dst denv dd dk) := by
  obtain ⟨x, vals, om, od⟩ := o
  obtain ⟨x', vals', om', od'⟩ := o'
  obtain ⟨hx, hv, hdd⟩ := ho
  simp only at hx hv hdd hom ⊢
  unfold thenK at h ⊢
  cases hx with
  | normal => cases h
  | exit id => cases h
  | ret =>
    simp only at h ⊢
    cases vals with
    | nil => cases h
    | cons v t =>
      obtain ⟨v', t', rfl, a, b⟩ := hv.cons_inv
      exact hk ι Φ _ _ _ _ _ _ _ _ r (.refl _) (.refl _) hom .normal (he.put a dst) hd h
  | panic hp => exact hk ι Φ _ _ _ _ _ _ _ _ r (.refl _) (.refl _) hom (.panic hp) he hd h
theorem evOp1_sim {O dO : Orc} (hO : OSim O dO) (hm : MM ι Φ m dm) (he : ER ι Φ env denv) (hd : DR ι Φ d dd) {op : IOp} (hok : ∀ p, op = .plain p → okP p = true) {dst : Option Nat} {k dk : Kont} (hk : KSim ι Φ k dk) {r : Out} (h : evOp1V O op dst env m d k = some r) :
    Res ι Φ m dm r (evOp1 dO op dst denv dm dd dk) := by
  cases op with
  | plain p =>
    simp only [evOp1V, evOp1] at h ⊢
    cases hv : vop p (aev env) m with
    | none => rw [hv] at h; cases h
    | some q =>
      obtain ⟨dv, dm', ι', Φ', a, b, c⟩ := vop_sim hm he.ev (hok p rfl) (v := q.1) (m' := q.2) hv
      rw [hv] at h; rw [a]
      simp only [Option.bind_some] at h ⊢
      exact .after hm c (hk ι' Φ' _ _ _ _ _ _ _ _ r c.le c.pin c.rel .normal ((he.mono c.le c.pin).put b dst) (hd.mono c.le c.pin) h)
  | call f as =>
    simp only [evOp1V, evOp1] at h ⊢
    cases ho : O (.call f) (as.map (aev env)) m [] with
    | none => rw [ho] at h; cases h
    | some o =>
      obtain ⟨dr, ι', Φ', a, b, c⟩ := hO ι Φ _ _ _ _ _ _ _ _ o hm (.call f) (he.maps as) .nil ho
      rw [ho] at h; rw [a]
      simp only [Option.bind_some] at h ⊢
      exact .after hm c (thenK_res c.rel b c.rel (he.mono c.le c.pin) (hd.mono c.le c.pin) (hk.mono c.le c.pin) h)
  | callV x as =>
    simp only [evOp1V, evOp1] at h ⊢
    cases hf : fn? (aev env x) with
    | none => rw [hf] at h; cases h
    | some p =>
      obtain ⟨f, u, w⟩ := p
      obtain ⟨u', w', e1, e2, e3⟩ := (he.ev x).fn? hf
      rw [hf] at h; rw [e1]
      simp only [Option.bind_some] at h ⊢
      cases ho : O (.call f) (u ++ as.map (aev env) ++ w) m [] with
      | none => rw [ho] at h; cases h
      | some o =>
        obtain ⟨dr, ι', Φ', a, b, c⟩ := hO ι Φ _ _ _ _ _ _ _ _ o hm (.call f) ((e2.append (he.maps as)).append e3) .nil ho
        rw [ho] at h; rw [a]
        simp only [Option.bind_some] at h ⊢
        exact .after hm c (thenK_res c.rel b c.rel (he.mono c.le c.pin) (hd.mono c.le c.pin) (hk.mono c.le c.pin) h)
  | dfr x as =>
    simp only [evOp1V, evOp1] at h ⊢
    cases hf : fn? (aev env x) with
    | none => rw [hf] at h; cases h
    | some p =>
      obtain ⟨f, u, w⟩ := p
      obtain ⟨u', w', e1, e2, e3⟩ := (he.ev x).fn? hf
      rw [hf] at h; rw [e1]
      simp only [Option.bind_some] at h ⊢
      exact hk ι Φ _ _ _ _ _ _ _ _ r (.refl _) (.refl _) hm .normal (he.put (.unk _) dst) (.cons ((e2.append (he.maps as)).append e3) hd) h
  | panic x =>
    have hx := he.ev x
    simp only [evOp1V, evOp1] at h ⊢
    split at h
    · rename_i t v heq
      rw [heq] at hx
      split at h
      · cases h
      · rename_i ht
        obtain ⟨u', e, hu⟩ := hx.of_iface (by simpa using ht)
        rw [e]
        exact hk ι Φ _ _ _ _ _ _ _ _ r (.refl _) (.refl _) hm (.panic (.iface (by simpa using ht) hu)) he hd h
    · cases h
  | recover => cases h
theorem evOp_sim {O dO : Orc} (hO : OSim O dO) (hm : MM ι Φ m dm) (he : ER ι Φ env denv) (hd : DR ι Φ d dd) {o : IOper} (hok : okO o = true) {k dk : Kont} (hk : KSim ι Φ k dk) {r : Out} (h : evOpV O o env m d k = some r) :
    Res ι Φ m dm r (evOp dO o denv dm dd dk) :=
  guarded_res he (fun h => evOp1_sim hO hm he hd (fun p hp => by simpa [okO, hp] using hok) hk h) (fun h => hk ι Φ _ _ _ _ _ _ _ _ r (.refl _) (.refl _) hm .normal (he.put .gone _) hd h) h
end
theorem evOps_sim {O dO : Orc} (hO : OSim O dO) : ∀ {ops : List IOper} {ι : Im} {Φ : Pin} {m dm : Mem} {env denv : Env} {d dd : List Dfr} {k dk : Kont}, MM ι Φ m dm → ER ι Φ env denv → DR ι Φ d dd → ops.all okO = true → KSim ι Φ k dk → ∀ {r : Out}, evOpsV O ops env m d k = some r → Res ι Φ m dm r (evOps dO ops denv dm dd dk) := by
  intro ops
  induction ops with
  | nil => intro ι Φ m dm env denv d dd k dk hm he hd _ hk r h; exact hk ι Φ _ _ _ _ _ _ _ _ r (.refl _) (.refl _) hm .normal he hd h
  | cons o t ih =>
    intro ι Φ m dm env denv d dd k dk hm he hd hok hk r h
    simp only [List.all_cons, Bool.and_eq_true] at hok
    refine evOp_sim hO hm he hd hok.1 (fun ι' Φ' x env m d dx denv dm dd r hi hp hm hx he hd h => ?_) h
    cases hx with
    | normal => exact ih hm he hd hok.2 (hk.mono hi hp) h
    | exit id => exact hk ι' Φ' _ _ _ _ _ _ _ _ r hi hp hm (.exit id) he hd h
    | ret => exact hk ι' Φ' _ _ _ _ _ _ _ _ r hi hp hm .ret he hd h
    | panic hv => exact hk ι' Φ' _ _ _ _ _ _ _ _ r hi hp hm (.panic hv) he hd h
/-! ### Where the order is open -/
def ResQ (ι : Im) (Φ : Pin) (m dm : Mem) (v : Value) (m' : Mem) (y : Option (Value × Mem)) : Prop := ∃ dv dm' ι' Φ', y = some (dv, dm') ∧ R ι' Φ' v dv ∧ Step2 ι Φ m dm ι' Φ' m' dm'
section
variable {ι : Im} {Φ : Pin} {m dm : Mem} {env denv : Env} {d dd : List Dfr}
theorem ret_res {o o' : Out} (ho : OutR ι Φ o o') {v : Value} {m' : Mem} (h : (match o.x with | .ret => (o.vals.head?).bind fun v => some (v, o.m) | _ => none) = some (v, m')) :
    ∃ dv, (match o'.x with | .ret => (o'.vals.head?).bind fun v => some (v, o'.m) | _ => none) = some (dv, o'.m) ∧ R ι Φ v dv ∧ m' = o.m := by
  obtain ⟨x, vals, om, od⟩ := o
  obtain ⟨x', vals', om', od'⟩ := o'
  obtain ⟨hx, hv, hdd⟩ := ho
  simp only at hx hv hdd h ⊢
  cases hx with
  | ret =>
    cases vals with
    | nil => cases h
    | cons u t =>
      obtain ⟨v', t', rfl, a, b⟩ := hv.cons_inv
      cases h
      exact ⟨v', rfl, a, rfl⟩
  | normal => cases h
  | exit id => cases h
  | panic hp => cases h
theorem qOp1_sim {O dO : Orc} (hO : OSim O dO) (hm : MM ι Φ m dm) (he : ER ι Φ env denv) {op : IOp} (hok : ∀ p, op = .plain p → okP p = true) {v : Value} {m' : Mem} (h : qOp1V O op env m = some (v, m')) : ResQ ι Φ m dm v m' (qOp1 dO op denv dm) := by
  have key : ∀ (f : FuncId) (l l' : List Value), LR ι Φ l l' → ((O (.call f) l m []).bind fun o => match o.x with | .ret => (o.vals.head?).bind fun v => some (v, o.m) | _ => none) = some (v, m') → ResQ ι Φ m dm v m' ((dO (.call f) l' dm []).bind fun o => match o.x with | .ret => (o.vals.head?).bind fun v => some (v, o.m) | _ => none) := by
    intro f l l' hl h
    cases ho : O (.call f) l m [] with
    | none => rw [ho] at h; cases h
    | some o =>
      obtain ⟨dr, ι', Φ', a, b, c⟩ := hO ι Φ _ _ _ _ _ _ _ _ o hm (.call f) hl .nil ho
      rw [ho] at h; rw [a]
      simp only [Option.bind_some] at h ⊢
      obtain ⟨dv, e1, e2, rfl⟩ := ret_res b h
      exact ⟨dv, _, ι', Φ', e1, e2, c⟩
  cases op with
  | plain p =>
    exact vop_sim hm he.ev (hok p rfl) h
  | call f as => exact key f _ _ (he.maps as) h
  | callV x as =>
    simp only [qOp1V, qOp1] at h ⊢
    cases hf : fn? (aev env x) with
    | none => rw [hf] at h; cases h
    | some p =>
      obtain ⟨f, u, w⟩ := p
      obtain ⟨u', w', e1, e2, e3⟩ := (he.ev x).fn? hf
      rw [hf] at h; rw [e1]
      exact key f _ _ ((e2.append (he.maps as)).append e3) h
  | _ => cases h
theorem MM.floor (h : MM ι Φ m dm) : MM ι Φ (m.floor m.next) (dm.floor dm.next) :=
  ⟨Nat.le_refl _, h.ronext, h.dom, fun o r hr => by
    obtain ⟨q, dr, a, b, c, d, e, f⟩ := h.row o r hr
    exact ⟨q, dr, a, b, c, d, e, fun g => by have := (h.dom o q a).1; simp only [Mem.lo_floor] at g; omega, f.2⟩, h.inj, h.pin⟩
theorem Step2.unfloor {ι' : Im} {Φ' : Pin} {m' dm' : Mem} (h0 : MM ι Φ m dm) (k : Step2 ι Φ (m.floor m.next) (dm.floor dm.next) ι' Φ' m' dm') : Step2 ι Φ m dm ι' Φ' (m'.floor m.lo) (dm'.floor dm.lo) := by
  have hdn : dm.next ≤ dm'.next := k.dnext
  refine ⟨⟨?_, ?_, k.rel.dom, ?_, k.rel.inj, k.rel.pin⟩, k.le, k.new, k.pin, k.pnew, rfl, rfl, k.dro, k.next, k.dnext, k.frame, k.dead⟩
  · simp only [Mem.lo_floor, Mem.next_floor]; have := h0.lonext; omega
  · have := k.rel.ronext
    simpa using this
  · intro o r hr
    obtain ⟨q, dr, a, b, c, d, e, f⟩ := k.rel.row o r hr
    refine ⟨q, dr, a, b, c, d, e, fun g => ?_, f.2⟩
    simp only [Mem.lo_floor] at g ⊢
    rcases k.new o q a with x | ⟨_, x⟩
    · cases hmo : m.get o with
      | none =>
        have := k.dead o (h0.dom o q x).1 hmo
        have hr' : m'.get o = some r := hr
        rw [this] at hr'; cases hr'
      | some r0 =>
        obtain ⟨dr0, _, _, _, _, e5⟩ := h0.live x hmo
        exact e5.1 g
    · have := h0.lonext
      simp only [Mem.next_floor] at x
      omega
theorem qRun_sim {O dO : Orc} (hO : OSim O dO) (hm : MM ι Φ m dm) (he : ER ι Φ env denv) {o : IOper} (hok : okO o = true) {q : QK} {v : Value} {m' : Mem} (h : qRunV O o q env m = some (v, m')) : ResQ ι Φ m dm v m' (qRun dO o q denv dm) := by
  have hok' : ∀ p, o.op = .plain p → okP p = true := fun p hp => by simpa [okO, hp] using hok
  cases q with
  | pure => exact qOp1_sim hO hm he hok' h
  | lone => exact qOp1_sim hO hm he hok' h
  | peek => exact qOp1_sim hO hm he hok' h
  | quiet =>
    simp only [qRunV, qRun] at h ⊢
    cases hq : qOp1V O o.op env (m.floor m.next) with
    | none => rw [hq] at h; cases h
    | some p =>
      rw [hq] at h
      cases h
      obtain ⟨dv, dm', ι', Φ', a, b, c⟩ := qOp1_sim hO hm.floor he hok' (v := p.1) (m' := p.2) hq
      rw [a]
      exact ⟨dv, _, ι', Φ', rfl, b, c.unfloor hm⟩
theorem eqv_sim {n0 dn0 : Nat} (hn : ∀ o q, ι o = some q → o < n0 → q < dn0) {u v du dv : Value} (h : eqv n0 u v = true) (h1 : R ι Φ u du) (h2 : R ι Φ v dv) : eqv dn0 du dv = true := by
  have e := eqv_eq h
  subst e
  have hb : ∀ u : Value, D.base u = true → eqv n0 u u = true → eqv dn0 u u = true := by
    intro u hb h
    cases u with
    | pointer a => cases a with
      | none => rfl
      | some a => simp [D.base] at hb
    | slice a n c => cases a with
      | none => cases n <;> cases c <;> first | rfl | (simp [eqv] at h)
      | some a => simp [D.base] at hb
    | _ => first | exact h | (simp [eqv] at h)
  by_cases hbu : D.base u = true
  · rw [h1.of_base hbu, h2.of_base hbu]; exact hb u hbu h
  · cases u with
    | pointer a => cases a with
      | none => exact absurd rfl hbu
      | some a =>
        obtain ⟨o, off, q, rfl, hq, rfl⟩ := h1.of_ptr
        obtain ⟨o2, off2, q2, e2, hq2, rfl⟩ := h2.of_ptr
        cases e2
        rw [hq] at hq2; cases hq2
        simp only [eqv, Bool.and_eq_true, decide_eq_true_eq] at h ⊢
        exact ⟨⟨trivial, trivial⟩, hn _ _ hq h.2⟩
    | slice a n c => cases a with
      | none => cases n <;> cases c <;> first | exact absurd rfl hbu | (simp [eqv] at h)
      | some a =>
        obtain ⟨o, off, q, rfl, hq, rfl⟩ := h1.of_slice
        obtain ⟨o2, off2, q2, e2, hq2, rfl⟩ := h2.of_slice
        cases e2
        rw [hq] at hq2; cases hq2
        simp only [eqv, Bool.and_eq_true, decide_eq_true_eq] at h ⊢
        exact ⟨⟨⟨⟨trivial, trivial⟩, trivial⟩, trivial⟩, hn _ _ hq h.2⟩
    | _ => first | exact absurd rfl hbu | (simp [eqv] at h)
theorem chks_sim {n0 dn0 : Nat} (hm : MM ι Φ m dm) (he : ER ι Φ env denv) (hn : ∀ o q, ι o = some q → o < n0 → q < dn0) (hn0 : n0 ≤ m.next) {l : List (IOper × List Nat)} (h : chksV n0 l env m = true) : chks dn0 l denv dm = true := by
  unfold chksV at h
  unfold chks
  rw [List.all_eq_true] at h ⊢
  intro c hc
  have h := h c hc
  split at h
  · rename_i n g a hop
    rw [hop]
    simp only
    unfold chk1V at h
    cases hv : vLd n g (aev (mask c.2 env) a) m with
    | none => rw [hv] at h; cases h
    | some u =>
      rw [hv] at h
      have hvop : vop (.load n g a) (aev (mask c.2 env)) m = some (u, m) := by simp only [vop, hv, only, Option.bind_some]
      obtain ⟨du, dm', ι', Φ', e1, e2, e3⟩ := vop_sim hm (he.mask c.2).ev (p := .load n g a) rfl hvop
      rw [e1]
      simp only [chk1]
      exact eqv_sim (fun o q ho hlt => by
        rcases e3.new o q ho with h | ⟨h, _⟩
        · exact hn o q h hlt
        · omega) h e2 ((he _).mono e3.le e3.pin)
  · cases h
theorem qPan1_sim {O dO : Orc} (hO : OSim O dO) (hm : MM ι Φ m dm) (he : ER ι Φ env denv) {op : IOp} {v : Value} {m' : Mem} (h : qPan1 O op env m = some (v, m')) : ResQ ι Φ m dm v m' (qPan1 dO op denv dm) := by
  have key : ∀ (f : FuncId) (l l' : List Value), LR ι Φ l l' → ((O (.call f) l m []).bind fun o => match o.x with | .panic v => some (v, o.m) | _ => none) = some (v, m') → ResQ ι Φ m dm v m' ((dO (.call f) l' dm []).bind fun o => match o.x with | .panic v => some (v, o.m) | _ => none) := by
    intro f l l' hl h
    cases ho : O (.call f) l m [] with
    | none => rw [ho] at h; cases h
    | some o =>
      obtain ⟨dr, ι', Φ', a, b, c⟩ := hO ι Φ _ _ _ _ _ _ _ _ o hm (.call f) hl .nil ho
      rw [ho] at h; rw [a]
      simp only [Option.bind_some] at h ⊢
      have hx := b.x
      cases hox : o.x with
      | panic pv =>
        rw [hox] at h hx
        cases h
        cases hdx : dr.x with
        | panic dv =>
          rw [hdx] at hx
          cases hx with
          | panic hp => exact ⟨dv, _, ι', Φ', rfl, hp, c⟩
        | _ => rw [hdx] at hx; cases hx
      | _ => rw [hox] at h; cases h
  cases op with
  | call f as => exact key f _ _ (he.maps as) h
  | callV x as =>
    simp only [qPan1] at h ⊢
    cases hf : fn? (aev env x) with
    | none => rw [hf] at h; cases h
    | some p =>
      obtain ⟨f, u, w⟩ := p
      obtain ⟨u', w', e1, e2, e3⟩ := (he.ev x).fn? hf
      rw [hf] at h; rw [e1]
      exact key f _ _ ((e2.append (he.maps as)).append e3) h
  | _ => cases h
end
theorem qOps_sim {O dO : Orc} (hO : OSim O dO) {n0 dn0 : Nat} : ∀ {ops : List (IOper × List Nat × QK)} {ι : Im} {Φ : Pin} {m dm : Mem} {env denv : Env} {k dk : Env → Mem → Option Out} {kp dkp : Value → Mem → Option Out}, MM ι Φ m dm → ER ι Φ env denv → (∀ o q, ι o = some q → o < n0 → q < dn0) → n0 ≤ m.next → (ops.all fun x => okO x.1) = true →
    (∀ ι' Φ' env m denv dm r, Im.le ι ι' → Pin.le Φ Φ' → MM ι' Φ' m dm → ER ι' Φ' env denv → k env m = some r → Res ι' Φ' m dm r (dk denv dm)) →
    (∀ ι' Φ' v m dv dm r, Im.le ι ι' → Pin.le Φ Φ' → MM ι' Φ' m dm → R ι' Φ' v dv → kp v m = some r → Res ι' Φ' m dm r (dkp dv dm)) → ∀ {r : Out}, qOpsV O n0 ops env m k kp = some r → Res ι Φ m dm r (qOps dO dn0 ops denv dm dk dkp) := by
  intro ops
  induction ops with
  | nil => intro ι Φ m dm env denv k dk kp dkp hm he _ _ _ hk _ r h; exact hk ι Φ _ _ _ _ r (.refl _) (.refl _) hm he h
  | cons o t ih =>
    intro ι Φ m dm env denv k dk kp dkp hm he hn hn0 hok hk hkp r h
    simp only [List.all_cons, Bool.and_eq_true] at hok
    obtain ⟨o, rs, q⟩ := o
    simp only [qOpsV, qOps, qOpV, qOp] at h ⊢
    have more : ∀ {v dv : Value} {m' dm' : Mem} {ι' : Im} {Φ' : Pin}, R ι' Φ' v dv → Step2 ι Φ m dm ι' Φ' m' dm' → qOpsV O n0 t (put env o.dst v) m' k kp = some r → Res ι Φ m dm r (qOps dO dn0 t (put denv o.dst dv) dm' dk dkp) := by
      intro v dv m' dm' ι' Φ' b c h
      refine .after hm c (ih c.rel ((he.mono c.le c.pin).put b _) (fun o q ho hlt => ?_) (Nat.le_trans hn0 c.next) hok.2 (fun ι2 Φ2 env m denv dm r hi hp => hk ι2 Φ2 env m denv dm r (c.le.trans hi) (c.pin.trans hp)) (fun ι2 Φ2 v m dv dm r hi hp => hkp ι2 Φ2 v m dv dm r (c.le.trans hi) (c.pin.trans hp)) h)
      rcases c.new o q ho with h | ⟨h, _⟩
      · exact hn o q h hlt
      · omega
    refine guarded_res (he.mask rs) (fun h => ?_) (fun h => ?_) h
    · unfold qDoV at h
      unfold qDo
      cases q with
      | lone pan chk =>
        simp only at h ⊢
        cases hq : qOp1V O o.op (mask rs env) m with
        | some p =>
          obtain ⟨dv, dm', ι', Φ', a, b, c⟩ := qOp1_sim hO hm (he.mask rs) (fun p hp => by simpa [okO, hp] using hok.1) (v := p.1) (m' := p.2) hq
          rw [hq] at h; rw [a]
          simp only at h ⊢
          split at h
          · rename_i hc
            rw [if_pos (chks_sim c.rel ((he.mono c.le c.pin).put b _) (fun o q ho hlt => by
              rcases c.new o q ho with h | ⟨h, _⟩
              · exact hn o q h hlt
              · omega) (Nat.le_trans hn0 c.next) hc)]
            exact more b c h
          · cases h
        | none =>
          rw [hq] at h
          simp only at h
          split at h
          · cases hq2 : qPan1 O o.op (mask rs env) m with
            | none => rw [hq2] at h; cases h
            | some p =>
              obtain ⟨dv, dm', ι', Φ', a, b, c⟩ := qPan1_sim hO hm (he.mask rs) (v := p.1) (m' := p.2) hq2
              rw [hq2] at h
              rw [qPan1_none a, a, if_pos ‹_›]
              exact .after hm c (hkp ι' Φ' _ _ _ _ r c.le c.pin c.rel b h)
          · cases h
      | _ =>
        simp only at h ⊢
        cases hq : qRunV O o _ (mask rs env) m with
        | none => rw [hq] at h; cases h
        | some p =>
          obtain ⟨dv, dm', ι', Φ', a, b, c⟩ := qRun_sim hO hm (he.mask rs) hok.1 (v := p.1) (m' := p.2) hq
          rw [hq] at h; rw [a]
          exact more b c h
    · exact ih hm (he.put .gone _) hn hn0 hok.2 hk hkp h
theorem ER.wipe {ι : Im} {Φ : Pin} {env denv : Env} (he : ER ι Φ env denv) (ops : List (IOper × List Nat × QK)) : ER ι Φ (D.wipe ops env) (D.wipe ops denv) := fun t => by
  unfold D.wipe
  split
  · exact .unk _
  · exact he t
theorem ev_sim {O dO : Orc} (hO : OSim O dO) : ∀ {c : IC} {ι : Im} {Φ : Pin} {m dm : Mem} {env denv : Env} {d dd : List Dfr} {k dk : Kont}, MM ι Φ m dm → ER ι Φ env denv → DR ι Φ d dd → okC c = true → KSim ι Φ k dk → ∀ {r : Out}, evV O c env m d k = some r → Res ι Φ m dm r (ev dO c denv dm dd dk) := by
  intro c
  induction c with
  | skip => intro ι Φ m dm env denv d dd k dk hm he hd _ hk r h; exact hk ι Φ _ _ _ _ _ _ _ _ r (.refl _) (.refl _) hm .normal he hd h
  | region ops => intro ι Φ m dm env denv d dd k dk hm he hd hok hk r h; exact evOps_sim hO hm he hd hok hk h
  | draws ops =>
    intro ι Φ m dm env denv d dd k dk hm he hd hok hk r h
    exact qOps_sim hO hm he (fun o q ho _ => (hm.dom o q ho).2) (Nat.le_refl _) hok (fun ι' Φ' env m denv dm r hi hp hm he h => hk ι' Φ' _ _ _ _ _ _ _ _ r hi hp hm .normal he (hd.mono hi hp) h) (fun ι' Φ' v m dv dm r hi hp hm hv h => hk ι' Φ' _ _ _ _ _ _ _ _ r hi hp hm (.panic hv) ((he.mono hi hp).wipe ops) (hd.mono hi hp) h) h
  | seq a b iha ihb =>
    intro ι Φ m dm env denv d dd k dk hm he hd hok hk r h
    simp only [okC, Bool.and_eq_true] at hok
    refine iha hm he hd hok.1 (fun ι' Φ' x env m d dx denv dm dd r hi hp hm hx he hd h => ?_) h
    cases hx with
    | normal => exact ihb hm he hd hok.2 (hk.mono hi hp) h
    | exit id => exact hk ι' Φ' _ _ _ _ _ _ _ _ r hi hp hm (.exit id) he hd h
    | ret => exact hk ι' Φ' _ _ _ _ _ _ _ _ r hi hp hm .ret he hd h
    | panic hv => exact hk ι' Φ' _ _ _ _ _ _ _ _ r hi hp hm (.panic hv) he hd h
  | cut keep a b iha ihb =>
    intro ι Φ m dm env denv d dd k dk hm he hd hok hk r h
    simp only [okC, Bool.and_eq_true] at hok
    simp only [evV, ev] at h ⊢
    cases ho : evV O a env m d fun x env m d => some ⟨x, keep.map env, m, d⟩ with
    | none => rw [ho] at h; cases h
    | some o =>
      obtain ⟨dr, ι', Φ', e1, e2, e3⟩ := iha hm he hd hok.1 (dk := fun x env m d => some ⟨x, keep.map env, m, d⟩) (fun ι' Φ' x env m d dx denv dm dd r hi hp hm hx he hd h => by
        cases h
        exact ⟨_, ι', Φ', rfl, ⟨hx, he.keep keep, hd⟩, .refl hm⟩) ho
      rw [ho] at h; rw [e1]
      simp only [Option.bind_some] at h ⊢
      obtain ⟨x, vals, om, od⟩ := o
      obtain ⟨x', vals', om', od'⟩ := dr
      obtain ⟨hx, hv, hdd⟩ := e2
      simp only at hx hv hdd h e3 ⊢
      refine .after hm e3 ?_
      have hk' := hk.mono e3.le e3.pin
      cases hx with
      | normal => exact ihb e3.rel (ER.unpack hv keep) hdd hok.2 hk' h
      | exit id => exact hk' ι' Φ' _ _ _ _ _ _ _ _ r (.refl _) (.refl _) e3.rel (.exit id) (ER.unpack hv keep) hdd h
      | ret => exact hk' ι' Φ' _ _ _ _ _ _ _ _ r (.refl _) (.refl _) e3.rel .ret (ER.unpack hv keep) hdd h
      | panic hp => exact hk' ι' Φ' _ _ _ _ _ _ _ _ r (.refl _) (.refl _) e3.rel (.panic hp) (ER.unpack hv keep) hdd h
  | cond c t e iht ihe =>
    intro ι Φ m dm env denv d dd k dk hm he hd hok hk r h
    simp only [okC, Bool.and_eq_true] at hok
    refine bind_res h (fun b hb => (he.ev c).bool? hb) (fun b _ h => ?_)
    split at h
    · rw [if_pos ‹_›]; exact iht hm he hd hok.1 hk h
    · rw [if_neg ‹_›]; exact ihe hm he hd hok.2 hk h
  | block id b ih =>
    intro ι Φ m dm env denv d dd k dk hm he hd hok hk r h
    refine ih hm he hd hok (fun ι' Φ' x env m d dx denv dm dd r hi hp hm hx he hd h => ?_) h
    cases hx with
    | exit j =>
      simp only at h ⊢
      split at h
      · rw [if_pos ‹_›]; exact hk ι' Φ' _ _ _ _ _ _ _ _ r hi hp hm .normal he hd h
      · rw [if_neg ‹_›]; exact hk ι' Φ' _ _ _ _ _ _ _ _ r hi hp hm (.exit j) he hd h
    | normal => exact hk ι' Φ' _ _ _ _ _ _ _ _ r hi hp hm .normal he hd h
    | ret => exact hk ι' Φ' _ _ _ _ _ _ _ _ r hi hp hm .ret he hd h
    | panic hv => exact hk ι' Φ' _ _ _ _ _ _ _ _ r hi hp hm (.panic hv) he hd h
  | loop l keep =>
    intro ι Φ m dm env denv d dd k dk hm he hd _ hk r h
    simp only [evV, ev] at h ⊢
    cases ho : O (.loop l) (keep.map env) m d with
    | none => rw [ho] at h; cases h
    | some o =>
      obtain ⟨dr, ι', Φ', e1, e2, e3⟩ := hO ι Φ _ _ _ _ _ _ _ _ o hm (.loop l) (he.keep keep) hd ho
      rw [ho] at h; rw [e1]
      simp only [Option.bind_some] at h ⊢
      obtain ⟨x, vals, om, od⟩ := o
      obtain ⟨x', vals', om', od'⟩ := dr
      obtain ⟨hx, hv, hdd⟩ := e2
      simp only at hx hv hdd h e3 ⊢
      refine .after hm e3 ?_
      have hk' := hk.mono e3.le e3.pin
      cases hx with
      | normal => cases h
      | exit id => exact hk' ι' Φ' _ _ _ _ _ _ _ _ r (.refl _) (.refl _) e3.rel (.exit id) (ER.unpack hv keep) hdd h
      | ret => exact hk' ι' Φ' _ _ _ _ _ _ _ _ r (.refl _) (.refl _) e3.rel .ret (ER.unpack hv keep) hdd h
      | panic hp => exact hk' ι' Φ' _ _ _ _ _ _ _ _ r (.refl _) (.refl _) e3.rel (.panic hp) (ER.unpack hv keep) hdd h
  | exit id => intro ι Φ m dm env denv d dd k dk hm he hd _ hk r h; exact hk ι Φ _ _ _ _ _ _ _ _ r (.refl _) (.refl _) hm (.exit id) he hd h
  | ret => intro ι Φ m dm env denv d dd k dk hm he hd _ hk r h; exact hk ι Φ _ _ _ _ _ _ _ _ r (.refl _) (.refl _) hm .ret he hd h
  | scope b ih => intro ι Φ m dm env denv d dd k dk hm he hd hok hk r h; exact ih hm he hd hok hk h
/-! ### Deferred functions -/
def KSimS (ι : Im) (Φ : Pin) (k dk : KontS) : Prop := ∀ ι' Φ' x env m p dx denv dm dp r, Im.le ι ι' → Pin.le Φ Φ' → MM ι' Φ' m dm → XR ι' Φ' x dx → ER ι' Φ' env denv → PR ι' Φ' p dp → k x env m p = some r → Res ι' Φ' m dm r (dk dx denv dm dp)
theorem KSimS.mono {ι ι' : Im} {Φ Φ' : Pin} (hi : Im.le ι ι') (hl : Pin.le Φ Φ') {k dk : KontS} (h : KSimS ι Φ k dk) : KSimS ι' Φ' k dk := fun ι2 Φ2 x env m d dx denv dm dd r a b => h ι2 Φ2 x env m d dx denv dm dd r (hi.trans a) (hl.trans b)
theorem evOpsS_sim {O dO : Orc} (hO : OSim O dO) : ∀ {ops : List IOper} {ι : Im} {Φ : Pin} {m dm : Mem} {env denv : Env} {p dp : Option Value} {k dk : KontS}, MM ι Φ m dm → ER ι Φ env denv → PR ι Φ p dp → ops.all okO = true → KSimS ι Φ k dk → ∀ {r : Out}, evOpsSV O ops env m p k = some r → Res ι Φ m dm r (evOpsS dO ops denv dm dp dk) := by
  intro ops
  induction ops with
  | nil => intro ι Φ m dm env denv p dp k dk hm he hp _ hk r h; exact hk ι Φ _ _ _ _ _ _ _ _ r (.refl _) (.refl _) hm .normal he hp h
  | cons o t ih =>
    intro ι Φ m dm env denv p dp k dk hm he hp hok hk r h
    simp only [List.all_cons, Bool.and_eq_true] at hok
    unfold evOpsSV at h
    unfold evOpsS
    cases hr : recov? o <;> simp only [hr] at h ⊢
    rotate_left
    · refine ih hm (he.put ?_ _) .none hok.2 hk h
      cases hp with
      | none => exact .base rfl
      | some hv => exact hv
    · refine evOp_sim hO hm he .nil hok.1 (fun ι' Φ' x env m d dx denv dm dd r hi hpp hm hx he hd h => ?_) h
      split at h
      · cases hx
        cases hd
        exact ih hm he (hp.mono hi hpp) hok.2 (hk.mono hi hpp) h
      · cases h
theorem evS_rest_sim {O dO : Orc} (hO : OSim O dO) {c : IC} {ι : Im} {Φ : Pin} {m dm : Mem} {env denv : Env} {p dp : Option Value} {k dk : KontS} (hm : MM ι Φ m dm) (he : ER ι Φ env denv) (hp : PR ι Φ p dp) (hok : okC c = true) (hk : KSimS ι Φ k dk) {r : Out}
    (h : (evV O c env m [] fun x env m d => match x, d with | .normal, [] => k .normal env m p | .ret, [] => k .ret env m p | _, _ => none) = some r) :
    Res ι Φ m dm r (ev dO c denv dm [] fun x env m d => match x, d with | .normal, [] => dk .normal env m dp | .ret, [] => dk .ret env m dp | _, _ => none) := by
  refine ev_sim hO hm he .nil hok (fun ι' Φ' x env m d dx denv dm dd r hi hpp hm hx he hd h => ?_) h
  split at h
  · cases hx; cases hd
    exact hk ι' Φ' _ _ _ _ _ _ _ _ r hi hpp hm .normal he (hp.mono hi hpp) h
  · cases hx; cases hd
    exact hk ι' Φ' _ _ _ _ _ _ _ _ r hi hpp hm .ret he (hp.mono hi hpp) h
  · cases h
theorem evS_sim {O dO : Orc} (hO : OSim O dO) : ∀ {c : IC} {ι : Im} {Φ : Pin} {m dm : Mem} {env denv : Env} {p dp : Option Value} {k dk : KontS}, MM ι Φ m dm → ER ι Φ env denv → PR ι Φ p dp → okC c = true → KSimS ι Φ k dk → ∀ {r : Out}, evSV O c env m p k = some r → Res ι Φ m dm r (evS dO c denv dm dp dk) := by
  intro c
  induction c with
  | skip => intro ι Φ m dm env denv p dp k dk hm he hp _ hk r h; exact hk ι Φ _ _ _ _ _ _ _ _ r (.refl _) (.refl _) hm .normal he hp h
  | region ops => intro ι Φ m dm env denv p dp k dk hm he hp hok hk r h; exact evOpsS_sim hO hm he hp hok hk h
  | seq a b iha ihb =>
    intro ι Φ m dm env denv p dp k dk hm he hp hok hk r h
    simp only [okC, Bool.and_eq_true] at hok
    refine iha hm he hp hok.1 (fun ι' Φ' x env m d dx denv dm dd r hi hpp hm hx he hd h => ?_) h
    cases hx with
    | normal => exact ihb hm he hd hok.2 (hk.mono hi hpp) h
    | exit id => exact hk ι' Φ' _ _ _ _ _ _ _ _ r hi hpp hm (.exit id) he hd h
    | ret => exact hk ι' Φ' _ _ _ _ _ _ _ _ r hi hpp hm .ret he hd h
    | panic hv => exact hk ι' Φ' _ _ _ _ _ _ _ _ r hi hpp hm (.panic hv) he hd h
  | cond c t e iht ihe =>
    intro ι Φ m dm env denv p dp k dk hm he hp hok hk r h
    simp only [okC, Bool.and_eq_true] at hok
    refine bind_res h (fun b hb => (he.ev c).bool? hb) (fun b _ h => ?_)
    split at h
    · rw [if_pos ‹_›]; exact iht hm he hp hok.1 hk h
    · rw [if_neg ‹_›]; exact ihe hm he hp hok.2 hk h
  | ret => intro ι Φ m dm env denv p dp k dk hm he hp _ hk r h; exact hk ι Φ _ _ _ _ _ _ _ _ r (.refl _) (.refl _) hm .ret he hp h
  | draws ops => intro ι Φ m dm env denv p dp k dk hm he hp hok hk r h; exact evS_rest_sim hO hm he hp hok hk h
  | cut keep a b => intro ι Φ m dm env denv p dp k dk hm he hp hok hk r h; exact evS_rest_sim hO hm he hp hok hk h
  | block id b => intro ι Φ m dm env denv p dp k dk hm he hp hok hk r h; exact evS_rest_sim hO hm he hp hok hk h
  | loop l keep => intro ι Φ m dm env denv p dp k dk hm he hp hok hk r h; exact evS_rest_sim hO hm he hp hok hk h
  | exit id => intro ι Φ m dm env denv p dp k dk hm he hp hok hk r h; exact evS_rest_sim hO hm he hp hok hk h
  | scope b => intro ι Φ m dm env denv p dp k dk hm he hp hok hk r h; exact evS_rest_sim hO hm he hp hok hk h
/-! ### Results -/
section
variable {ι : Im} {Φ : Pin} {m dm : Mem} {env denv : Env} {d dd : List Dfr}
theorem resL_sim (hm : MM ι Φ m dm) (he : ER ι Φ env denv) : ∀ {rs : List IRes} {l : List Value}, resLV env m rs = some l → ∃ l', resL denv dm rs = some l' ∧ LR ι Φ l l' := by
  intro rs
  induction rs with
  | nil => intro l h; cases h; exact ⟨[], rfl, .nil⟩
  | cons x t ih =>
    intro l h
    cases x with
    | tmp a =>
      simp only [resLV, resL] at h ⊢
      cases ht : resLV env m t with
      | none => rw [ht] at h; cases h
      | some l1 =>
        obtain ⟨l', e1, e2⟩ := ih ht
        rw [ht] at h; rw [e1]; cases h
        exact ⟨_, rfl, .cons (he a) e2⟩
    | cell a n g =>
      simp only [resLV, resL] at h ⊢
      cases hv : vLd n g (env a) m with
      | none => rw [hv] at h; cases h
      | some v =>
        obtain ⟨dv, a1, a2⟩ := vLd_R hm (he a) hv
        rw [hv] at h
        rw [aLoad_eq, a1]
        simp only [Option.bind_some, only] at h ⊢
        cases ht : resLV env m t with
        | none => rw [ht] at h; cases h
        | some l1 =>
          obtain ⟨l', e1, e2⟩ := ih ht
          rw [ht] at h; rw [e1]; cases h
          exact ⟨_, rfl, .cons a2 e2⟩
theorem pack_R {l l' : List Value} (h : LR ι Φ l l') : R ι Φ (pack l) (pack l') := by
  rcases l with _ | ⟨a, _ | ⟨b, t⟩⟩
  · rw [h.nil_inv]; exact .unk _
  · obtain ⟨a', t', rfl, h1, h2⟩ := h.cons_inv
    rw [h2.nil_inv]; exact h1
  · obtain ⟨a', t', rfl, h1, h2⟩ := h.cons_inv
    obtain ⟨b', t'', rfl, h3, h4⟩ := h2.cons_inv
    exact R.tuple_l h
theorem resOf_sim (hm : MM ι Φ m dm) (he : ER ι Φ env denv) {fn : IFun} {v : Value} (h : resOfV fn env m = some v) : ∃ dv, resOf fn denv dm = some dv ∧ R ι Φ v dv := by
  unfold resOfV at h
  unfold resOf
  cases hl : resLV env m fn.results with
  | none => rw [hl] at h; cases h
  | some l =>
    obtain ⟨l', a, b⟩ := resL_sim hm he hl
    rw [hl] at h; rw [a]; cases h
    exact ⟨_, rfl, pack_R b⟩
end
theorem leaves_sim {O dO : Orc} (hO : OSim O dO) {fn : IFun} : ∀ {ds : List Dfr} {ι : Im} {Φ : Pin} {m dm : Mem} {env denv : Env} {dds : List Dfr} {p dp : Option Value}, MM ι Φ m dm → ER ι Φ env denv → DR ι Φ ds dds → PR ι Φ p dp → ∀ {r : Out}, leavesV O fn env ds p m = some r → Res ι Φ m dm r (leaves dO fn denv dds dp dm) := by
  intro ds
  induction ds with
  | nil =>
    intro ι Φ m dm env denv dds p dp hm he hd hp r h
    cases hd
    cases hp with
    | none =>
      simp only [leavesV, leaves] at h ⊢
      cases hv : resOfV fn env m with
      | none => rw [hv] at h; cases h
      | some v =>
        obtain ⟨dv, a, b⟩ := resOf_sim hm he hv
        rw [hv] at h; rw [a]; cases h
        exact ⟨_, ι, Φ, rfl, ⟨.ret, .cons b .nil, .nil⟩, .refl hm⟩
    | some hv =>
      cases h
      exact ⟨_, ι, Φ, rfl, ⟨.panic hv, .nil, .nil⟩, .refl hm⟩
  | cons df ds ih =>
    intro ι Φ m dm env denv dds p dp hm he hd hp r h
    cases hd with
    | @cons f a a' t t' ha hd =>
      simp only [leavesV, leaves] at h ⊢
      cases ho : O (.dcall f p) a m [] with
      | none => rw [ho] at h; cases h
      | some o =>
        obtain ⟨dr, ι', Φ', e1, e2, e3⟩ := hO ι Φ _ _ _ _ _ _ _ _ o hm (.dcall f hp) ha .nil ho
        rw [ho] at h; rw [e1]
        simp only [Option.bind_some] at h ⊢
        obtain ⟨x, vals, om, od⟩ := o
        obtain ⟨x', vals', om', od'⟩ := dr
        obtain ⟨hx, hv, hdd⟩ := e2
        simp only at hx hv hdd h e3 ⊢
        split at h
        · rename_i b hb _
          cases hx
          obtain ⟨v', t', rfl, h1, h2⟩ := hv.cons_inv
          rw [h2.nil_inv, h1.of_bool]
          refine .after hm e3 (ih e3.rel (he.mono e3.le e3.pin) (hd.mono e3.le e3.pin) ?_ h)
          split
          · exact .none
          · exact hp.mono e3.le e3.pin
        · cases h
theorem fin_sim {O dO : Orc} (hO : OSim O dO) (fn : IFun) (ι : Im) (Φ : Pin) : KSim ι Φ (finV O fn) (fin dO fn) := by
  intro ι' Φ' x env m d dx denv dm dd r hi hp hm hx he hd h
  cases hx with
  | normal => exact leaves_sim hO hm he hd .none h
  | ret => exact leaves_sim hO hm he hd .none h
  | panic hv => exact leaves_sim hO hm he hd (.some hv) h
  | exit id => cases h
theorem PR.same {ι : Im} {Φ : Pin} {p dp : Option Value} (h : PR ι Φ p dp) : p.isSome = dp.isSome ∧ p.isNone = dp.isNone := by cases h <;> exact ⟨rfl, rfl⟩
theorem finS_sim (fn : IFun) {ι : Im} {Φ : Pin} {pan dpan : Option Value} (hpan : PR ι Φ pan dpan) : KSimS ι Φ (finSV fn pan) (finS fn dpan) := by
  intro ι' Φ' x env m p dx denv dm dp r hi hpp hm hx he hp h
  have key : ((resOfV fn env m).bind fun _ => some (⟨.ret, [.bool (pan.isSome && p.isNone)], m, []⟩ : Out)) = some r → Res ι' Φ' m dm r ((resOf fn denv dm).bind fun _ => some ⟨.ret, [.bool (dpan.isSome && dp.isNone)], dm, []⟩) := by
    intro h
    cases hv : resOfV fn env m with
    | none => rw [hv] at h; cases h
    | some v =>
      obtain ⟨dv, a, b⟩ := resOf_sim hm he hv
      rw [hv] at h; rw [a]; cases h
      rw [hpan.same.1, hp.same.2]
      exact ⟨_, ι', Φ', rfl, ⟨.ret, .cons (.base rfl) .nil, .nil⟩, .refl hm⟩
  cases hx with
  | normal => exact key h
  | ret => exact key h
  | panic hv => cases h
  | exit id => cases h

/-! ### All of it -/
structure CR (C : CodeV) (D : Code?) : Prop where
  irs : ∀ f fn, C.irs f = some fn → D.irs f = some fn ∧ okC fn.body = true
  lps : ∀ l p, C.lps l = some p → D.lps l = some p ∧ okC p.2 = true
  gvn : ∀ f, C.gv f = none → D.gv f = none
  gv : ∀ f g, C.gv f = some g → ∃ dg, D.gv f = some dg ∧ ∀ ι Φ m dm args dargs v, MM ι Φ m dm → LR ι Φ args dargs → g args = some v → ∃ dv dm' Φ', dg dargs dm = some (dv, dm') ∧ R ι Φ' v dv ∧ Step2 ι Φ m dm ι Φ' m dm'
theorem lr_base_eq {ι : Im} {Φ : Pin} {l l' : List Value} (hb : ∀ a ∈ l, base a = true) (h : LR ι Φ l l') : l' = l := by
  induction l generalizing l' with
  | nil => exact h.nil_inv
  | cons a t ih =>
    obtain ⟨v, t', rfl, h1, h2⟩ := h.cons_inv
    rw [h1.of_base (hb a (by simp)), ih (fun x hx => hb x (by simp [hx])) h2]
theorem again_sim {O dO : Orc} (hO : OSim O dO) (l : Nat) (keep : List Nat) (ι : Im) (Φ : Pin) : KSim ι Φ (again O l keep) (again dO l keep) := by
  intro ι' Φ' x env m d dx denv dm dd r hi hp hm hx he hd h
  cases hx with
  | normal => exact hO ι' Φ' _ _ _ _ _ _ _ _ r hm (.loop l) (he.keep keep) hd h
  | ret => cases h; exact ⟨_, ι', Φ', rfl, ⟨.ret, he.keep keep, hd⟩, .refl hm⟩
  | panic hv => cases h; exact ⟨_, ι', Φ', rfl, ⟨.panic hv, he.keep keep, hd⟩, .refl hm⟩
  | exit id => cases h; exact ⟨_, ι', Φ', rfl, ⟨.exit id, he.keep keep, hd⟩, .refl hm⟩
open Classical in
/-- The rows of a call that has ended are fixed. -/
theorem close_sim {ι ι1 : Im} {Φ Φ1 : Pin} {m dm : Mem} (hm : MM ι Φ m dm) {o do_ : Out} (ho : OutR ι1 Φ1 o do_) (hs : Step2 ι Φ ⟨[], m.next, m.next, 0⟩ dm ι1 Φ1 o.m do_.m) {r : Out} (h : close m o = some r) :
    Res ι Φ m dm r (some do_) := by
  let Φ' : Pin := fun q => if (∃ o' , ι1 o' = some q ∧ o.m.get o' ≠ none) then do_.m.get q else Φ1 q
  have hp : Pin.le Φ1 Φ' := by
    intro q r' hq
    show (if (∃ o' , ι1 o' = some q ∧ o.m.get o' ≠ none) then do_.m.get q else Φ1 q) = some r'
    split
    · rename_i hx
      obtain ⟨o', ho', hlv⟩ := hx
      cases hmo : o.m.get o' with
      | none => exact absurd hmo hlv
      | some r0 =>
        obtain ⟨_, _, _, _, _, _, e⟩ := hs.rel.live ho' hmo
        rw [hq] at e; cases e
    · exact hq
  have hpin : ∀ o' q r' dr, ι1 o' = some q → o.m.get o' = some r' → do_.m.get q = some dr → Φ' q = some dr := by
    intro o' q r' dr h1 h2 h3
    show (if (∃ o' , ι1 o' = some q ∧ o.m.get o' ≠ none) then do_.m.get q else Φ1 q) = some dr
    rw [if_pos ⟨o', h1, by rw [h2]; simp⟩]; exact h3
  have hnl : ∀ o', o' < m.next → o.m.get o' = none := fun o' ho' => hs.dead o' ho' rfl
  have hback : ∀ o' q, ι1 o' = some q → o' < m.next → ι o' = some q := by
    intro o' q h1 h2
    rcases hs.new o' q h1 with x | ⟨x, _⟩
    · exact x
    · simp only at x; omega
  have hnew : ∀ q r', Φ' q = some r' → Φ q = some r' ∨ dm.next ≤ q := by
    intro q r' hq
    have hq : (if (∃ o' , ι1 o' = some q ∧ o.m.get o' ≠ none) then do_.m.get q else Φ1 q) = some r' := hq
    split at hq
    · rename_i hx
      obtain ⟨o2, h3, h4⟩ := hx
      rcases hs.new o2 q h3 with x | ⟨_, x⟩
      · exact absurd (hnl o2 (hm.dom o2 q x).1) h4
      · exact .inr x
    · rcases hs.pnew q r' hq with x | x | ⟨o2, _, x⟩
      · exact .inl x
      · exact .inr x
      · exact absurd rfl x
  have hold : ∀ o' q r0, ι o' = some q → m.get o' = some r0 → Φ' q = none := by
    intro o' q r0 h1 h2
    cases hq : Φ' q with
    | none => rfl
    | some r' =>
      obtain ⟨_, _, _, _, _, _, e⟩ := hm.live h1 h2
      have := (hm.dom o' q h1).2
      rcases hnew q r' hq with x | x
      · rw [e] at x; cases x
      · omega
  have hframe : ∀ q, q < dm.next → do_.m.get q = dm.get q := fun q hq => hs.frame q hq (fun _ _ => rfl)
  have hstep : Step2 ι Φ m dm ι Φ' m do_.m := by
    refine ⟨⟨?_, ?_, ?_, ?_, hm.inj, ?_⟩, .refl _, fun _ _ h => .inl h, hs.pin.trans hp, fun q r' x => (hnew q r' x).elim .inl (fun y => .inr (.inl y)), rfl, hs.dlo, hs.dro, Nat.le_refl _, hs.dnext, fun q hq _ => hframe q hq, fun _ _ h => h⟩
    · have := hm.lonext; have := hs.dnext; rw [hs.dlo]; omega
    · have := hm.ronext; have := hs.dnext; rw [hs.dro]; omega
    · intro o' q h1
      obtain ⟨a, b⟩ := hm.dom o' q h1
      exact ⟨a, Nat.lt_of_lt_of_le b hs.dnext⟩
    · intro o' r' hr'
      obtain ⟨q, dr, a, b, c, d, e, f, f2⟩ := hm.row o' r' hr'
      exact ⟨q, dr, a, by rw [hframe q (hm.dom o' q a).2]; exact b, c, d.mono (.refl _) (hs.pin.trans hp), by rw [hs.dro]; exact e, fun g => by rw [hs.dlo]; exact f g, hold o' q r' a hr'⟩
    · intro q r' hq
      have hq0 := hq
      have hq : (if (∃ o' , ι1 o' = some q ∧ o.m.get o' ≠ none) then do_.m.get q else Φ1 q) = some r' := hq
      split at hq
      · rename_i hx
        obtain ⟨o2, h3, h4⟩ := hx
        exact ⟨hq, (hs.rel.dom o2 q h3).2⟩
      · exact hs.rel.pin q r' hq
  have hR : ∀ {v d : Value}, R ι1 Φ1 v d → R ι Φ' (frz FUEL m.next o.m v) d := fun h => frz_R hs.rel hp hpin hback FUEL h
  obtain ⟨x, vals, om, od⟩ := o
  obtain ⟨x', vals', om', od'⟩ := do_
  obtain ⟨hx, hv, hd⟩ := ho
  simp only at hx hv hd hstep hR ⊢
  unfold close at h
  cases hd with
  | cons _ _ => cases hx <;> cases h
  | nil =>
    cases hx with
    | normal => cases h
    | exit id => cases h
    | ret =>
      cases h
      refine ⟨_, ι, Φ', rfl, ⟨.ret, ?_, .nil⟩, hstep⟩
      show LR ι Φ' (vals.map (frz FUEL m.next om)) vals'
      refine ⟨by simpa using hv.1, fun i u v a b => ?_⟩
      obtain ⟨w, hw, rfl⟩ := vmap_get a
      exact hR (hv.2 i w v hw b)
    | panic hpv =>
      simp only at h
      cases vals with
      | nil =>
        rw [hv.nil_inv]
        cases h
        exact ⟨_, ι, Φ', rfl, ⟨.panic (hR hpv), .nil, .nil⟩, hstep⟩
      | cons a t => cases h
open Classical in
/-- All that is live is fixed. -/
theorem MM.freeze {ι : Im} {Φ : Pin} {m dm : Mem} (hm : MM ι Φ m dm) : ∃ Φ', Step2 ι Φ m dm ι Φ' ⟨[], m.next, m.lo, m.ro⟩ dm ∧ ∀ {l dl : List Value}, LR ι Φ l dl → LR ι Φ' (l.map (frz FUEL 0 m)) dl := by
  let Φ' : Pin := fun q => if (∃ o' , ι o' = some q ∧ m.get o' ≠ none) then dm.get q else Φ q
  have hp : Pin.le Φ Φ' := by
    intro q r' hq
    show (if (∃ o' , ι o' = some q ∧ m.get o' ≠ none) then dm.get q else Φ q) = some r'
    split
    · rename_i hx
      obtain ⟨o', ho', hlv⟩ := hx
      cases hmo : m.get o' with
      | none => exact absurd hmo hlv
      | some r0 =>
        obtain ⟨_, _, _, _, _, _, e⟩ := hm.live ho' hmo
        rw [hq] at e; cases e
    · exact hq
  have hpin : ∀ o' q r' dr, ι o' = some q → m.get o' = some r' → dm.get q = some dr → Φ' q = some dr := by
    intro o' q r' dr h1 h2 h3
    show (if (∃ o' , ι o' = some q ∧ m.get o' ≠ none) then dm.get q else Φ q) = some dr
    rw [if_pos ⟨o', h1, by rw [h2]; simp⟩]; exact h3
  refine ⟨Φ', ⟨⟨hm.lonext, hm.ronext, hm.dom, fun o r hr => (by cases hr), hm.inj, ?_⟩, .refl _, fun _ _ h => .inl h, hp, ?_, rfl, rfl, rfl, Nat.le_refl _, Nat.le_refl _, fun _ _ _ => rfl, fun _ _ _ => rfl⟩, fun hl => ?_⟩
  · intro q r' hq
    have hq : (if (∃ o' , ι o' = some q ∧ m.get o' ≠ none) then dm.get q else Φ q) = some r' := hq
    split at hq
    · rename_i hx
      obtain ⟨o2, h3, h4⟩ := hx
      exact ⟨hq, (hm.dom o2 q h3).2⟩
    · exact hm.pin q r' hq
  · intro q r' hq
    have hq : (if (∃ o' , ι o' = some q ∧ m.get o' ≠ none) then dm.get q else Φ q) = some r' := hq
    split at hq
    · exact .inr (.inr ‹_›)
    · exact .inl hq
  · refine ⟨by simpa using hl.1, fun i u v a b => ?_⟩
    obtain ⟨w, hw, rfl⟩ := vmap_get a
    exact (frz_FR hm hp hpin FUEL (hl.2 i w v hw b)).toR
theorem MM.bare {ι : Im} {Φ : Pin} {m dm : Mem} (h : MM ι Φ m dm) : MM ι Φ ⟨[], m.next, m.next, 0⟩ dm :=
  ⟨h.lonext, h.ronext, h.dom, fun o r hr => (by cases hr), h.inj, h.pin⟩
theorem step1_sim {C : CodeV} {D : Code?} (hC : CR C D) {O dO : Orc} (hO : OSim O dO) : OSim (step1V C O) (step1 D dO) := by
  intro ι Φ k a m d dk da dm dd r hm hk ha hd h
  cases hk with
  | call f =>
    simp only [step1V, step1] at h ⊢
    cases hg : C.gv f with
    | some g =>
      obtain ⟨dg, e1, e2⟩ := hC.gv f g hg
      rw [hg] at h; rw [e1]
      simp only at h ⊢
      cases hv : g a with
      | none => rw [hv] at h; cases h
      | some v =>
        obtain ⟨dv, dm', Φ', b1, b2, b3⟩ := e2 ι Φ m dm a da v hm ha hv
        rw [hv] at h
        cases h
        rw [b1]
        exact ⟨_, ι, Φ', rfl, ⟨.ret, .cons b2 .nil, .nil⟩, b3⟩
    | none =>
      rw [hg] at h; rw [hC.gvn f hg]
      simp only at h ⊢
      cases hf : C.irs f with
      | none => rw [hf] at h; cases h
      | some fn =>
        obtain ⟨e1, e2⟩ := hC.irs f fn hf
        rw [hf] at h; rw [e1]
        simp only [Option.bind_some] at h ⊢
        split at h
        · rw [if_pos (by rw [← ha.1]; assumption)]
          split at h
          · split at h
            · cases ho : evV O fn.body (envOf a) ⟨[], m.next, m.next, 0⟩ [] (finV O fn) with
              | none => rw [ho] at h; cases h
              | some o =>
                obtain ⟨dr, ι1, Φ1, a1, a2, a3⟩ := ev_sim hO hm.bare (ER.envOf ha) .nil e2 (fin_sim hO fn ι Φ) ho
                rw [ho] at h; rw [a1]
                exact close_sim hm a2 a3 h
            · obtain ⟨Φ0, f1, f2⟩ := hm.freeze
              refine .after hm f1 ?_
              cases ho : evV O fn.body (envOf (a.map (frz FUEL 0 m))) ⟨[], m.next, m.next, 0⟩ [] (finV O fn) with
              | none => rw [ho] at h; cases h
              | some o =>
                obtain ⟨dr, ι1, Φ1, a1, a2, a3⟩ := ev_sim hO f1.rel.bare (ER.envOf (f2 ha)) .nil e2 (fin_sim hO fn ι Φ0) ho
                rw [ho] at h; rw [a1]
                exact close_sim f1.rel a2 a3 h
          · exact ev_sim hO hm (ER.envOf ha) .nil e2 (fin_sim hO fn ι Φ) h
        · cases h
  | loop l =>
    simp only [step1V, step1] at h ⊢
    cases hl : C.lps l with
    | none => rw [hl] at h; cases h
    | some p =>
      obtain ⟨e1, e2⟩ := hC.lps l p hl
      rw [hl] at h; rw [e1]
      exact ev_sim hO hm (ER.unpack ha p.1) hd e2 (again_sim hO l p.1 ι Φ) h
  | dcall f hp =>
    simp only [step1V, step1] at h ⊢
    cases hf : C.irs f with
    | none => rw [hf] at h; cases h
    | some fn =>
      obtain ⟨e1, e2⟩ := hC.irs f fn hf
      rw [hf] at h; rw [e1]
      simp only [Option.bind_some] at h ⊢
      split at h
      · rw [if_pos (by rw [← ha.1]; assumption)]
        exact evS_sim hO hm (ER.envOf ha) hp e2 (finS_sim fn hp) h
      · cases h
theorem EV_sim {C : CodeV} {D : Code?} (hC : CR C D) (n : Nat) : OSim (EV C n) (E D n) := by
  induction n with
  | zero => intro ι Φ k a m d dk da dm dd r hm hk ha hd h; cases h
  | succ n ih => exact step1_sim hC ih
end Go.Proofs.Ytjojfpmelhaknaa.D
