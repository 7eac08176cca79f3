/-
  A deterministic reading of the program's code: the reading is sound.
-/
import Derived.Test.YtjojfpmelhaknaaD17
namespace Go.Proofs.Ytjojfpmelhaknaa.D
open Go.RowKit
set_option linter.unusedVariables false
set_option linter.unusedSimpArgs false

/-! ### A deferred function -/
/-- Where the mode of the frame that is left stands. -/
structure MR (ι : Inj) (pan : Option Value) (u0 : FrameMode) (p : Option Value) (u : FrameMode) : Prop where
  ok : (p = pan ∧ u = u0 ∧ PanRel ι pan u0) ∨ (p = none ∧ (pan = none ∧ u = u0 ∧ u0 = .returning ∨ ∃ v v', pan = some v ∧ u0 = .panicking [{ v := v', recovered := false }] ∧ u = .panicking [{ v := v', recovered := true }]))
theorem PanRel.mono {ι ι' : Inj} (hl : Inj.le ι ι') {pan : Option Value} {u : FrameMode} (h : PanRel ι pan u) : PanRel ι' pan u := by
  cases pan with
  | none => exact h
  | some v => obtain ⟨v', a, b⟩ := h; exact ⟨v', a.mono hl, b⟩
theorem MR.mono {ι ι' : Inj} (hl : Inj.le ι ι') {pan p : Option Value} {u0 u : FrameMode} (h : MR ι pan u0 p u) : MR ι' pan u0 p u := by
  rcases h.ok with ⟨a, b, c⟩ | h
  · exact ⟨.inl ⟨a, b, c.mono hl⟩⟩
  · exact ⟨.inr h⟩
def KSS (cx : Cx) (N : Nat) (ι : Inj) (m : Mem) (w : World) (pan : Option Value) (u0 : FrameMode) (c₀ : Frame) (cs : List Frame) (k : KontS) (r : Out) (Q : Exit → Act → List Frame → World → Prop) : Prop :=
  ∀ x env' m' p' u' ι' a' w' xr, k x env' m' p' = some r → Post cx ι m w ι' m' w' → SR cx N ι' env' m' [] a' w' → MR ι' pan u0 p' u' → XRel ι' x xr → Q xr a' ({ c₀ with mode := u' } :: cs) w'
theorem KSS.step {cx : Cx} {N : Nat} {ι ι' : Inj} {m m' : Mem} {w w' : World} {pan : Option Value} {u0 : FrameMode} {c₀ : Frame} {cs : List Frame} {k : KontS} {r : Out} {Q : Exit → Act → List Frame → World → Prop} (h : KSS cx N ι m w pan u0 c₀ cs k r Q) (hr : Rel cx ι m w) (hp : Post cx ι m w ι' m' w') : KSS cx N ι' m' w' pan u0 c₀ cs k r Q :=
  fun x env' m2 p' u' ι2 a' w2 xr hk hp2 hs hm hx => h x env' m2 p' u' ι2 a' w2 xr hk (hp.trans hp2 hr) hs hm hx
theorem recover_run {P : Program} {o : Oper} {a : Act} {w : World} (h : compOp P o.type o.op = some .recover) : (execOp a.eval o).run P w = .ok .recover w := by
  unfold compOp at h
  split at h <;> first
    | (cases h; done)
    | (rename_i heq; unfold execOp; rw [heq]; rfl)
    | (cases hq : compileP P o.type o.op with
       | none => rw [hq] at h; cases h
       | some p => rw [hq] at h; cases h)
theorem evOpsS_sound {cx : Cx} {C : Code?} {O : Orc} (hO : OS cx C O) {N : Nat} {os : Array Oper} {Q : Exit → Act → List Frame → World → Prop} {r : Out} {pan : Option Value} {u0 : FrameMode} {c₀ : Frame} {cs : List Frame} : ∀ {l : List Oper} {j : Nat} {ops : List IOper} {ι : Inj} {env : Env} {m : Mem} {p : Option Value} {u : FrameMode} {a : Act} {w : World} {k : KontS},
    (∀ (i : Nat), l[i]? = os[j + i]?) → compL cx.P N os l = some ops → SR cx N ι env m [] a w → MR ι pan u0 p u → evOpsS O ops env m p k = some r → KSS cx N ι m w pan u0 c₀ cs k r Q → wpOpsS cx.P os Q (List.range' j l.length) a ({ c₀ with mode := u } :: cs) w := by
  intro l
  induction l with
  | nil =>
    intro j ops ι env m p u a w k hj hc hs hm h hk
    cases hc
    exact hk _ _ _ _ _ ι a w _ h (.refl hs.rel) hs hm .normal
  | cons o t ih =>
    intro j ops ι env m p u a w k hj hc hs hm h hk
    unfold compL at hc
    split at hc
    · rename_i x l' h1 h2
      cases hc
      obtain ⟨c1, c2, c3, c4⟩ := compO_spec h1
      have hj0 : os[j]? = some o := by have := hj 0; simpa using this.symm
      have hj1 : ∀ (i : Nat), t[i]? = os[j + 1 + i]? := fun i => by have := hj (i + 1); simpa [Nat.add_assoc, Nat.add_comm 1 i] using this
      simp only [List.length_cons, List.range'_succ]
      unfold wpOpsS
      simp only [hj0]
      unfold evOpsS at h
      cases hrec : recov? x with
      | true =>
        simp only [hrec] at h
        have hx : x.op = .recover ∧ x.guard = [] := by
          unfold recov? at hrec
          split at hrec
          · exact ⟨by assumption, by assumption⟩
          · cases hrec
        rw [hx.1] at c2
        have hw : Region.wanted o (yielded os a.tmps) = true := by
          have hg : gok x.guard env = some true := by rw [hx.2]; rfl
          exact gok_wanted hs.env c1 hg
        rw [if_pos hw, recover_run c2]
        simp only
        rw [c3] at h
        rcases hm.ok with ⟨rfl, rfl, hp⟩ | ⟨rfl, hp⟩
        · cases p with
          | none =>
            simp only [PanRel] at hp
            subst hp
            simp only [recoverD]
            exact ih hj1 h2 (hs.put (.refl hs.rel) c4 (.base rfl)) ⟨.inr ⟨rfl, .inl ⟨rfl, rfl, rfl⟩⟩⟩ h hk
          | some v =>
            obtain ⟨v', hv, rfl⟩ := hp
            simp only [recoverD]
            exact ih hj1 h2 (hs.put (.refl hs.rel) c4 hv) ⟨.inr ⟨rfl, .inr ⟨v, v', rfl, rfl, rfl⟩⟩⟩ h hk
        · rcases hp with ⟨rfl, rfl, rfl⟩ | ⟨v, v', rfl, rfl, rfl⟩
          · simp only [recoverD]
            exact ih hj1 h2 (hs.put (.refl hs.rel) c4 (.base rfl)) ⟨.inr ⟨rfl, .inl ⟨rfl, rfl, rfl⟩⟩⟩ h hk
          · simp only [recoverD]
            exact ih hj1 h2 (hs.put (.refl hs.rel) c4 (.base rfl)) ⟨.inr ⟨rfl, .inr ⟨v, v', rfl, rfl, rfl⟩⟩⟩ h hk
      | false =>
        simp only [hrec] at h
        unfold evOp at h
        rcases guard_cases hs.env c1 h with ⟨g1, g2⟩ | ⟨g1, g2⟩
        · rw [if_pos g1]
          rw [c3] at g2
          have hkk : KS cx N ι m w (fun x env m d => match x, d with | .normal, [] => evOpsS O l' env m p k | _, _ => none) r (fun e a w => match e with | .normal => wpOpsS cx.P os Q (List.range' (j + 1) t.length) a ({ c₀ with mode := u } :: cs) w | _ => False) := by
            intro x env' m' d' ι' a' w' xr hkx hp hs' hx
            cases hx with
            | normal =>
              cases d' with
              | nil => exact ih hj1 h2 hs' (hm.mono hp.le) hkx (hk.step hs.rel hp)
              | cons df ds => cases hkx
            | exit id => cases hkx
            | ret => cases hkx
            | panic hv => cases hkx
          have hwp := evOp1_sound (Q := fun e a w => Q e a ({ c₀ with mode := u } :: cs) w) (next := fun a w => wpOpsS cx.P os Q (List.range' (j + 1) t.length) a ({ c₀ with mode := u } :: cs) w) hO hs c4 c2 g2 hkk (fun a w h => h) (fun ch a w h => h.elim)
          unfold Oper.wp at hwp
          generalize (execOp a.eval o).run cx.P w = res at hwp ⊢
          split
          · exact hwp.elim
          · exact hwp
        · rw [if_neg (by rw [g1]; simp)]
          rw [c3] at g2
          exact ih hj1 h2 (hs.put (.refl hs.rel) c4 .gone) hm g2 hk
    · cases hc
theorem evS_rest {cx : Cx} {C : Code?} {O : Orc} (hO : OS cx C O) (hKO : KPO O) (hm : cx.P.follows .mixedOrders = true) {N : Nat} {c : Code} {ic : IC} {ι : Inj} {env : Env} {m : Mem} {p : Option Value} {u u0 : FrameMode} {pan : Option Value} {c₀ : Frame} {cs : List Frame} {a : Act} {w : World} {k : KontS} {r : Out} {Q : Exit → Act → List Frame → World → Prop}
    (hf : Fit cx.P C N c ic) (hs : SR cx N ι env m [] a w) (hmr : MR ι pan u0 p u) (h : (ev O ic env m [] fun x env m d => match x, d with | .normal, [] => k .normal env m p | .ret, [] => k .ret env m p | _, _ => none) = some r) (hk : KSS cx N ι m w pan u0 c₀ cs k r Q) : c.wpS cx.P Q a ({ c₀ with mode := u } :: cs) w := by
  refine wpS_of_wp (ev_sound hO hKO hm c hf hs h ?_)
  intro x env' m' d' ι' a' w' xr hkx hp hs' hx
  cases hx with
  | normal =>
    cases d' with
    | nil => exact hk _ _ _ _ _ ι' a' w' _ hkx hp hs' (hmr.mono hp.le) .normal
    | cons df ds => cases hkx
  | ret =>
    cases d' with
    | nil => exact hk _ _ _ _ _ ι' a' w' _ hkx hp hs' (hmr.mono hp.le) .ret
    | cons df ds => cases hkx
  | exit id => cases hkx
  | panic hv => cases hkx
theorem evS_sound {cx : Cx} {C : Code?} {O : Orc} (hO : OS cx C O) (hKO : KPO O) (hm : cx.P.follows .mixedOrders = true) {N : Nat} {u0 : FrameMode} {pan : Option Value} {c₀ : Frame} {cs : List Frame} : ∀ (c : Code) {ic : IC} {ι : Inj} {env : Env} {m : Mem} {p : Option Value} {u : FrameMode} {a : Act} {w : World} {k : KontS} {r : Out} {Q : Exit → Act → List Frame → World → Prop},
    Fit cx.P C N c ic → SR cx N ι env m [] a w → MR ι pan u0 p u → evS O ic env m p k = some r → KSS cx N ι m w pan u0 c₀ cs k r Q → c.wpS cx.P Q a ({ c₀ with mode := u } :: cs) w := by
  intro c
  induction c with
  | skip =>
    intro ic ι env m p u a w k r Q hf hs hmr h hk
    cases hf
    exact wpS_of_wp (wp_skip (hk _ _ _ _ _ ι a w _ h (.refl hs.rel) hs hmr .normal))
  | region id os draw =>
    intro ic ι env m p u a w k r Q hf hs hmr h hk
    cases draw with
    | false =>
      obtain ⟨ops, hc, rfl⟩ := hf
      refine wpS_region ?_
      rw [List.range_eq_range', ← Array.length_toList]
      exact evOpsS_sound hO (by simp) hc hs hmr h hk
    | true =>
      have hf0 := hf
      obtain ⟨ops, hc, hok, rfl⟩ := hf
      exact evS_rest hO hKO hm hf0 hs hmr h hk
  | seq s t ihs iht =>
    intro ic ι env m p u a w k r Q hf hs hmr h hk
    have hf0 := hf
    obtain ⟨x, y, hx, hy, rfl | ⟨keep, rfl⟩⟩ := hf
    · refine wpS_seq (ihs hx hs hmr h ?_)
      intro e env' m' p' u' ι' a' w' xr hkx hp hs' hm' hxr
      cases hxr with
      | normal => exact iht hy hs' hm' hkx (hk.step hs.rel hp)
      | exit id => exact hk _ _ _ _ _ ι' a' w' _ hkx hp hs' hm' (.exit id)
      | ret => exact hk _ _ _ _ _ ι' a' w' _ hkx hp hs' hm' .ret
      | panic hv => exact hk _ _ _ _ _ ι' a' w' _ hkx hp hs' hm' (.panic hv)
    · exact evS_rest hO hKO hm hf0 hs hmr h hk
  | cond c s t ihs iht =>
    intro ic ι env m p u a w k r Q hf hs hmr h hk
    obtain ⟨x, y, hx, hy, rfl⟩ := hf
    simp only [evS] at h
    cases hb : bool? (aev env c) with
    | none => rw [hb] at h; cases h
    | some b =>
      rw [hb] at h
      simp only [Option.bind_some] at h
      have hv := hs.env.ev c
      rw [bool?_some hb] at hv
      refine wpS_cond hv.of_bool ?_
      cases b with
      | true => exact ihs hx hs hmr h hk
      | false => exact iht hy hs hmr h hk
  | block id s ih =>
    intro ic ι env m p u a w k r Q hf hs hmr h hk
    have hf0 := hf
    obtain ⟨x, hx, rfl⟩ := hf
    exact evS_rest hO hKO hm hf0 hs hmr h hk
  | loop s ih =>
    intro ic ι env m p u a w k r Q hf hs hmr h hk
    have hf0 := hf
    obtain ⟨l, keep, ib, hl, hb, rfl⟩ := hf
    exact evS_rest hO hKO hm hf0 hs hmr h hk
  | exit id =>
    intro ic ι env m p u a w k r Q hf hs hmr h hk
    have hf0 := hf
    cases hf
    exact evS_rest hO hKO hm hf0 hs hmr h hk
  | ret =>
    intro ic ι env m p u a w k r Q hf hs hmr h hk
    cases hf
    exact wpS_of_wp (wp_ret (hk _ _ _ _ _ ι a w _ h (.refl hs.rel) hs hmr .ret))
  | scope s ih =>
    intro ic ι env m p u a w k r Q hf hs hmr h hk
    have hf0 := hf
    obtain ⟨x, hx, rfl⟩ := hf
    exact evS_rest hO hKO hm hf0 hs hmr h hk
  | rangeFunc => intro ic ι env m p u a w k r Q hf; exact hf.elim
  | label => intro ic ι env m p u a w k r Q hf; exact hf.elim
  | goto => intro ic ι env m p u a w k r Q hf; exact hf.elim
  | refuse =>
    intro ic ι env m p u a w k r Q hf hs hmr h hk
    cases hf
    exact absurd h (by simp [stopIC, evS, aev, constOk, base, bool?])

/-! ### All of it -/
structure GS (cx : Cx) (C : Code?) : Prop where
  follows : cx.P.follows .mixedOrders = true
  irs : ∀ f fn, C.irs f = some fn → FitF cx.P C f fn
  kp : GKP C
  gv : ∀ f g, C.gv f = some g → ∀ args m v m', g args m = some (v, m') → ∀ ι w (vs : Array Value), Rel cx ι m w → LRel ι args vs.toList → Goes cx.P f vs w fun e w' => ∃ ι', Post cx ι m w ι' m' w' ∧ ∃ v', e = .returned v' ∧ VRel ι' v v'
theorem enters {P : Program} {f : FuncId} {F : Func} {c : Code} (hf : P.funcs[f]? = some F) (hname : (F.name == "runtime.NumGoroutine") = false) (hb : F.body = some c) (args : Array Value) (w : World) : (callFunc f args).run P w = .ok (.enter f args) w := by
  have h1 : F.name ≠ "runtime.NumGoroutine" := by simpa using hname
  simp [callFunc, hf, h1, hb]
theorem E_sound {cx : Cx} {C : Code?} (G : GS cx C) (n : Nat) : OS cx C (E C n) := by
  induction n with
  | zero =>
    refine ⟨?_, ?_, ?_⟩
    · intro f args m out h; cases h
    · intro l vals m d out h; cases h
    · intro f pan args m out h; cases h
  | succ n ih =>
    have hKO := E_kp G.kp n
    refine ⟨?_, ?_, ?_⟩
    · intro f args m out h ι w vs hr hl
      simp only [E, step1] at h
      split at h
      · rename_i g hgv
        cases hv : g args m with
        | none => rw [hv] at h; cases h
        | some p =>
          rw [hv] at h
          cases h
          have := G.gv f g hgv args m p.1 p.2 hv ι w vs hr hl
          rcases this with ⟨a, b⟩ | ⟨v, w', a, ι', b, v', c, d⟩
          · refine .inl ⟨a, b.mono ?_⟩
            rintro e w' ⟨ι', hp, v', rfl, hvv⟩
            exact ⟨ι', hp, rfl, _, rfl, hvv⟩
          · cases c
            exact .inr ⟨v, w', a, ι', b, rfl, _, rfl, d⟩
      · cases hf : C.irs f with
        | none => rw [hf] at h; cases h
        | some fn =>
          rw [hf] at h
          simp only [Option.bind_some] at h
          split at h
          · rename_i hn
            obtain ⟨F, code, f1, f2, f3, f4, f5, f6⟩ := (G.irs f fn hf).ex
            refine .inl ⟨enters f1 f2 f3 vs w, calls_of_wp_defers f1 f3 ?_⟩
            have hE := enter_env hl hn
            refine ev_sound ih hKO G.follows code (N := fn.n) f5 (a := ⟨vs ++ Array.replicate (F.ntmps - vs.size) undef, []⟩) ⟨hr, by rw [f4]; exact hE, .nil⟩ h ?_
            intro x env' m' d' ι' a' w' xr hkx hp hs' hx
            cases hx with
            | normal => exact leaves_sound ih f6 (u := .returning) hkx hp.rel hs'.env hs'.dfr rfl (fun e w2 ι2 hp2 hen => ⟨ι2, hp.trans hp2 hr, hen⟩)
            | ret => exact leaves_sound ih f6 (u := .returning) hkx hp.rel hs'.env hs'.dfr rfl (fun e w2 ι2 hp2 hen => ⟨ι2, hp.trans hp2 hr, hen⟩)
            | panic hv => exact leaves_sound ih f6 hkx hp.rel hs'.env hs'.dfr ⟨_, hv, rfl⟩ (fun e w2 ι2 hp2 hen => ⟨ι2, hp.trans hp2 hr, hen⟩)
            | exit id => cases hkx
          · cases h
    · intro l vals m d out h keep ib hl N code hfit ι a w hs Q hQ
      simp only [E, step1] at h
      rw [hl] at h
      simp only [Option.bind_some] at h
      refine lp_step (ev_sound ih hKO G.follows code hfit hs h ?_)
      intro x env' m' d' ι' a' w' xr hkx hp hs' hx
      cases hx with
      | normal =>
        exact ih.loop l _ m' d' out hkx keep ib hl N code hfit ι' a' w' ⟨hs'.rel, hs'.env.weak keep, hs'.dfr⟩ Q (fun ι2 a2 w2 xr hp2 hs2 hx2 hne => hQ ι2 a2 w2 xr (hp.trans hp2 hs.rel) hs2 hx2 hne)
      | exit id => cases hkx; exact hQ ι' a' w' _ hp ⟨hs'.rel, hs'.env.weak keep, hs'.dfr⟩ (.exit id) (by simp)
      | ret => cases hkx; exact hQ ι' a' w' _ hp ⟨hs'.rel, hs'.env.weak keep, hs'.dfr⟩ .ret (by simp)
      | panic hv => cases hkx; exact hQ ι' a' w' _ hp ⟨hs'.rel, hs'.env.weak keep, hs'.dfr⟩ (.panic hv) (by simp)
    · intro f pan args m out h ι w vs hr hl
      simp only [E, step1] at h
      cases hf : C.irs f with
      | none => rw [hf] at h; cases h
      | some fn =>
        rw [hf] at h
        simp only [Option.bind_some] at h
        split at h
        · rename_i hn
          obtain ⟨F, code, f1, f2, f3, f4, f5, f6⟩ := (G.irs f fn hf).ex
          refine ⟨enters f1 f2 f3 vs w, fun u hu => callsD_of_wpS f1 f3 ?_⟩
          intro c₀ cs hc₀
          have hE := enter_env hl hn
          have hcc : ({ c₀ with mode := u } : Frame) = c₀ := by subst hc₀; rfl
          have := evS_sound (c₀ := c₀) (cs := cs) ih hKO G.follows code (N := fn.n) (pan := pan) (u0 := u) f5 (a := ⟨vs ++ Array.replicate (F.ntmps - vs.size) undef, []⟩) ⟨hr, by rw [f4]; exact hE, .nil⟩ (p := pan) (u := u) ⟨.inl ⟨rfl, rfl, hu⟩⟩ h (Q := bodyPostS cx.P F c₀ cs fun e u' w' => ∃ ι' b, Post cx ι m w ι' out.m w' ∧ out.x = .ret ∧ out.vals = [.bool b] ∧ (∃ v, e = .returned v) ∧ u' = modeOf pan b u ∧ (b = true → pan ≠ none)) ?_
          · rw [hcc] at this; exact this
          · intro x env' m' p' u' ι' a' w' xr hkx hp hs' hmr hx
            have hd : a'.defers = [] := by
              have := hs'.dfr
              cases hdd : a'.defers with
              | nil => rfl
              | cons z t => rw [hdd] at this; cases this
            have fin : ∀ v, resOf fn env' m' = some v → out = ⟨.ret, [.bool (pan.isSome && p'.isNone)], m', []⟩ →
                a'.defers = [] ∧ ∃ u2, ({ c₀ with mode := u' } :: cs : List Frame) = { c₀ with mode := u2 } :: cs ∧ ∃ v, (results F a'.tmps).run cx.P w' = .ok v w' ∧ ∃ ι' b, Post cx ι m w ι' out.m w' ∧ out.x = .ret ∧ out.vals = [.bool b] ∧ (∃ v2, Ending.returned v = .returned v2) ∧ u2 = modeOf pan b u ∧ (b = true → pan ≠ none) := by
              intro v hv ho
              subst ho
              obtain ⟨v', r1, r2⟩ := resOf_sound (a := a') hs'.rel hs'.env f6 hv
              refine ⟨hd, u', rfl, v', r1, ι', _, hp, rfl, rfl, ⟨_, rfl⟩, ?_, ?_⟩
              · rcases hmr.ok with ⟨rfl, rfl, hpr⟩ | ⟨rfl, ⟨rfl, rfl, rfl⟩ | ⟨v0, v1, rfl, rfl, rfl⟩⟩
                · cases p' with
                  | none => simp only [PanRel] at hpr; subst hpr; rfl
                  | some v0 => obtain ⟨v1, _, rfl⟩ := hpr; rfl
                · rfl
                · rfl
              · intro hb hpn
                subst hpn
                simp at hb
            cases hx with
            | normal =>
              simp only [finS] at hkx
              cases hv : resOf fn env' m' with
              | none => rw [hv] at hkx; cases hkx
              | some v => rw [hv] at hkx; simp only [Option.bind_some, Option.some.injEq] at hkx; exact fin v hv hkx.symm
            | ret =>
              simp only [finS] at hkx
              cases hv : resOf fn env' m' with
              | none => rw [hv] at hkx; cases hkx
              | some v => rw [hv] at hkx; simp only [Option.bind_some, Option.some.injEq] at hkx; exact fin v hv hkx.symm
            | exit id => cases hkx
            | panic hv => cases hkx
        · cases h
end Go.Proofs.Ytjojfpmelhaknaa.D
