/-
  A deterministic reading of the program's code: calls come to what they are read as.
-/
import Derived.Test.YtjojfpmelhaknaaD16
namespace Go.Proofs.Ytjojfpmelhaknaa.D
open Go.RowKit
set_option linter.unusedVariables false
set_option linter.unusedSimpArgs false

theorem ev_sound {cx : Cx} {C : Code?} {O : Orc} (hO : OS cx C O) (hKO : KPO O) (hm : cx.P.follows .mixedOrders = true) {N : Nat} : ∀ (c : Code) {ic : IC} {ι : Inj} {env : Env} {m : Mem} {d : List Dfr} {a : Act} {w : World} {k : Kont} {r : Out} {Q : Exit → Act → World → Prop},
    Fit cx.P C N c ic → SR cx N ι env m d a w → ev O ic env m d k = some r → KS cx N ι m w k r Q → c.wp cx.P Q a w := by
  intro c
  induction c with
  | skip =>
    intro ic ι env m d a w k r Q hf hs h hk
    cases hf
    exact wp_skip (hk _ _ _ _ ι a w _ h (.refl hs.rel) hs .normal)
  | region id os draw =>
    intro ic ι env m d a w k r Q hf hs h hk
    cases draw with
    | false =>
      obtain ⟨ops, hc, rfl⟩ := hf
      exact wp_region_list (evOps_sound hO hc hs h hk)
    | true =>
      obtain ⟨ops, hc, hok, rfl⟩ := hf
      exact draws_sound hO hKO hm hc hok hs h hk
  | seq s t ihs iht =>
    intro ic ι env m d a w k r Q hf hs h hk
    obtain ⟨x, y, hx, hy, rfl | ⟨keep, rfl⟩⟩ := hf
    · refine wp_seq (ihs hx hs h ?_)
      intro e env' m' d' ι' a' w' xr hkx hp hs' hxr
      cases hxr with
      | normal => exact iht hy hs' hkx (hk.step hs.rel hp)
      | exit id => exact hk _ _ _ _ ι' a' w' _ hkx hp hs' (.exit id)
      | ret => exact hk _ _ _ _ ι' a' w' _ hkx hp hs' .ret
      | panic hv => exact hk _ _ _ _ ι' a' w' _ hkx hp hs' (.panic hv)
    · simp only [ev] at h
      cases ho : ev O x env m d fun x env m d => some ⟨x, keep.map env, m, d⟩ with
      | none => rw [ho] at h; cases h
      | some o =>
        rw [ho] at h
        simp only [Option.bind_some] at h
        refine wp_seq (ihs hx hs ho ?_)
        intro e env' m' d' ι' a' w' xr hkx hp hs' hxr
        cases hkx
        have hw : SR cx N ι' (unpack keep (keep.map env')) m' d' a' w' := ⟨hs'.rel, hs'.env.weak keep, hs'.dfr⟩
        cases hxr with
        | normal => exact iht hy hw h (hk.step hs.rel hp)
        | exit id => exact hk _ _ _ _ ι' a' w' _ h hp hw (.exit id)
        | ret => exact hk _ _ _ _ ι' a' w' _ h hp hw .ret
        | panic hv => exact hk _ _ _ _ ι' a' w' _ h hp hw (.panic hv)
  | cond c s t ihs iht =>
    intro ic ι env m d a w k r Q hf hs h hk
    obtain ⟨x, y, hx, hy, rfl⟩ := hf
    simp only [ev] at h
    cases hb : bool? (aev env c) with
    | none => rw [hb] at h; cases h
    | some b =>
      rw [hb] at h
      simp only [Option.bind_some] at h
      have hv := hs.env.ev c
      rw [bool?_some hb] at hv
      refine wp_cond hv.of_bool ?_
      cases b with
      | true => exact ihs hx hs h hk
      | false => exact iht hy hs h hk
  | block id s ih =>
    intro ic ι env m d a w k r Q hf hs h hk
    obtain ⟨x, hx, rfl⟩ := hf
    refine wp_block (ih hx hs h ?_)
    intro e env' m' d' ι' a' w' xr hkx hp hs' hxr
    cases hxr with
    | normal => exact hk _ _ _ _ ι' a' w' _ hkx hp hs' .normal
    | exit j =>
      simp only at hkx
      simp only [Exit.inBlock]
      split at hkx
      · rw [if_pos ‹_›]; exact hk _ _ _ _ ι' a' w' _ hkx hp hs' .normal
      · rw [if_neg ‹_›]; exact hk _ _ _ _ ι' a' w' _ hkx hp hs' (.exit j)
    | ret => exact hk _ _ _ _ ι' a' w' _ hkx hp hs' .ret
    | panic hv => exact hk _ _ _ _ ι' a' w' _ hkx hp hs' (.panic hv)
  | loop s ih =>
    intro ic ι env m d a w k r Q hf hs h hk
    obtain ⟨l, keep, ib, hl, hb, rfl⟩ := hf
    simp only [ev] at h
    cases ho : O (.loop l) (keep.map env) m d with
    | none => rw [ho] at h; cases h
    | some o =>
      rw [ho] at h
      simp only [Option.bind_some] at h
      refine wp_of_lp (hO.loop l _ m d o ho keep ib hl N s hb ι a w ⟨hs.rel, hs.env.weak keep, hs.dfr⟩ Q ?_)
      intro ι' a' w' xr hp hs' hx hne
      split at h
      · rename_i he; exact absurd he hne
      · exact hk _ _ _ _ ι' a' w' xr h hp hs' hx
  | exit id =>
    intro ic ι env m d a w k r Q hf hs h hk
    cases hf
    exact wp_exit (hk _ _ _ _ ι a w _ h (.refl hs.rel) hs (.exit id))
  | ret =>
    intro ic ι env m d a w k r Q hf hs h hk
    cases hf
    exact wp_ret (hk _ _ _ _ ι a w _ h (.refl hs.rel) hs .ret)
  | scope s ih =>
    intro ic ι env m d a w k r Q hf hs h hk
    obtain ⟨x, hx, rfl⟩ := hf
    refine wp_scope_straight (ih hx hs h ?_)
    intro e env' m' d' ι' a' w' xr hkx hp hs' hxr
    have := hk _ _ _ _ ι' a' w' xr hkx hp hs' hxr
    cases hxr <;> exact this
  | rangeFunc => intro ic ι env m d a w k r Q hf; exact hf.elim
  | label => intro ic ι env m d a w k r Q hf; exact hf.elim
  | goto => intro ic ι env m d a w k r Q hf; exact hf.elim
  | refuse =>
    intro ic ι env m d a w k r Q hf hs h hk
    cases hf
    exact absurd h (by simp [stopIC, ev, aev, constOk, base, bool?])

/-! ### Results -/
theorem resL_sound {cx : Cx} {ι : Inj} {N : Nat} {env : Env} {a : Act} {m : Mem} {w : World} (hr : Rel cx ι m w) (he : ERel ι N env a.tmps) : ∀ {rs : List ResultVar} {qs : List IRes} {l : List Value}, FitR cx.P rs qs → resL env m qs = some l →
    ∃ l', (rs.mapM (m := Sem) fun | .tmp t => pure (a.tmps.getD t undef) | .cell p t => do loadVar t (← asAddr (a.tmps.getD p undef))).run cx.P w = .ok l' w ∧ LRel ι l l' := by
  intro rs
  induction rs with
  | nil => intro qs l hf h; cases hf; cases h; exact ⟨[], rfl, .nil⟩
  | cons x t ih =>
    intro qs l hf h
    cases x with
    | tmp p =>
      obtain ⟨q, hq, rfl⟩ := hf
      simp only [resL] at h
      cases hl : resL env m q with
      | none => rw [hl] at h; cases h
      | some l2 =>
        rw [hl] at h; cases h
        obtain ⟨l', r1, r2⟩ := ih hq hl
        refine ⟨a.tmps.getD p undef :: l', ?_, .cons (he.at_ p) r2⟩
        simp only [List.mapM_cons]
        rw [run_bind (a := a.tmps.getD p undef) (w1 := w) rfl, run_bind r1]
        rfl
    | cell p ty =>
      obtain ⟨q, x, hx, hq, rfl⟩ := hf
      simp only [resL] at h
      cases hv : aLoad x.size x.agg (env p) m with
      | none => rw [hv] at h; cases h
      | some v =>
        rw [hv] at h
        simp only [Option.bind_some] at h
        cases hl : resL env m q with
        | none => rw [hl] at h; cases h
        | some l2 =>
          rw [hl] at h; cases h
          obtain ⟨l', r1, r2⟩ := ih hq hl
          have hp := he.at_ p
          have hv0 := hv
          unfold aLoad at hv
          cases hd : addr? (env p) with
          | none => rw [hd] at hv; cases hv
          | some q0 =>
            obtain ⟨o, off⟩ := q0
            rw [hd] at hv
            have := addr?_some hd
            rw [this] at hp
            obtain ⟨o', off', g, e, ho, e2⟩ := hp.of_ptr
            cases e
            have hm' : v.2 = m := by
              simp only [Option.bind_some] at hv
              split at hv
              · cases hq2 : m.at_ o off x.size with
                | none => rw [hq2] at hv; cases hv
                | some l => rw [hq2] at hv; cases hv; rfl
              · cases hq2 : m.ld o off with
                | none => rw [hq2] at hv; cases hv
                | some l => rw [hq2] at hv; cases hv; rfl
            obtain ⟨ι', v', w', s1, s2, s3⟩ := loadVar_sound hr (ti_spec hx) ho (v := v.1) (m' := v.2) (by simpa using hv)
            -- a load turns nothing
            have hsame : ∃ u, (loadVar ty ⟨g.b, g.s + off, none⟩).run cx.P w = .ok u w ∧ VRel ι v.1 u := by
              obtain ⟨⟨i, z, h1, h2, h3, h4, h5, _⟩, hg⟩ := ti_spec hx
              unfold loadVar
              simp only [Option.bind_some] at hv
              split at hv
              · rename_i ha
                cases hl2 : m.at_ o off x.size with
                | none => rw [hl2] at hv; cases hv
                | some l0 =>
                  rw [hl2] at hv; cases hv
                  obtain ⟨l1, p1, p2, _, p3⟩ := load_sound hr ho hl2
                  refine ⟨_, ?_, VRel.agg_l p2 p3⟩
                  rw [run_bind (run_isAgg hg w), if_pos ha, run_bind (run_sizeOf h1 w), h5, run_bind p1]
                  rfl
              · rename_i ha
                cases hl2 : m.ld o off with
                | none => rw [hl2] at hv; cases hv
                | some l0 =>
                  rw [hl2] at hv; cases hv
                  obtain ⟨u, p1, p2⟩ := ld_sound hr ho hl2
                  refine ⟨u, ?_, p2⟩
                  rw [run_bind (run_isAgg hg w), if_neg ha]
                  exact run_load p1
            obtain ⟨u, u1, u2⟩ := hsame
            refine ⟨u :: l', ?_, .cons u2 r2⟩
            simp only [List.mapM_cons]
            rw [run_bind (a := u) (w1 := w) (by rw [e2, run_bind (a := (⟨g.b, g.s + off, none⟩ : Addr)) (w1 := w) rfl]; exact u1), run_bind r1]
            rfl
theorem pack_rel {ι : Inj} {l l' : List Value} (h : LRel ι l l') : VRel ι (pack l) (if h : l'.toArray.size = 1 then l'.toArray[0] else .tuple l'.toArray) := by
  cases l with
  | nil =>
    have := h.nil_inv
    subst this
    exact .unk _
  | cons u t =>
    obtain ⟨v, t', rfl, h1, h2⟩ := h.cons_inv
    cases t with
    | nil =>
      have := h2.nil_inv
      subst this
      simpa [pack] using h1
    | cons u2 t2 =>
      obtain ⟨v2, t3, rfl, h3, h4⟩ := h2.cons_inv
      have hne : ¬ (v :: v2 :: t3).toArray.size = 1 := by simp
      rw [dif_neg hne]
      exact VRel.tuple_l (.cons h1 (.cons h3 h4))
theorem resOf_sound {cx : Cx} {ι : Inj} {N : Nat} {env : Env} {a : Act} {m : Mem} {w : World} (hr : Rel cx ι m w) (he : ERel ι N env a.tmps) {F : Func} {fn : IFun} {v : Value} (hf : FitR cx.P F.results.toList fn.results) (h : resOf fn env m = some v) :
    ∃ v', (results F a.tmps).run cx.P w = .ok v' w ∧ VRel ι v v' := by
  unfold resOf at h
  cases hl : resL env m fn.results with
  | none => rw [hl] at h; cases h
  | some l =>
    rw [hl] at h; cases h
    obtain ⟨l', r1, r2⟩ := resL_sound hr he hf hl
    refine ⟨_, ?_, pack_rel r2⟩
    unfold results
    rw [Array.mapM_eq_mapM_toList]
    have : ((List.toArray <$> F.results.toList.mapM (m := Sem) fun | .tmp t => pure (a.tmps.getD t undef) | .cell p t => do loadVar t (← asAddr (a.tmps.getD p undef))) : Sem (Array Value)).run cx.P w = .ok l'.toArray w := by
      show (Sem.bind _ _).run _ _ = _
      exact run_bind r1
    refine (run_bind (a := l'.toArray) (w1 := w) ?_).trans rfl
    exact this

/-! ### Ways out of a function -/
theorem leaves_sound {cx : Cx} {C : Code?} {O : Orc} (hO : OS cx C O) {N : Nat} {env : Env} {F : Func} {fn : IFun} (hf : FitR cx.P F.results.toList fn.results) {tmps : Array Value} : ∀ {ds : List Dfr} {es : List Deferred} {pan : Option Value} {u : FrameMode} {ι : Inj} {m : Mem} {w : World} {out : Out} {R : Ending → World → Prop},
    leaves O fn env ds pan m = some out → Rel cx ι m w → ERel ι N env tmps → DRel ι ds es → PanRel ι pan u → (∀ e w' ι', Post cx ι m w ι' out.m w' → EnRel ι' out e → R e w') → Leaves cx.P F tmps R es u w := by
  intro ds
  induction ds with
  | nil =>
    intro es pan u ι m w out R h hr he hd hp hR
    cases hd
    cases pan with
    | none =>
      simp only [PanRel] at hp
      subst hp
      simp only [leaves] at h
      cases hv : resOf fn env m with
      | none => rw [hv] at h; cases h
      | some v =>
        rw [hv] at h; cases h
        obtain ⟨v', r1, r2⟩ := resOf_sound (a := ⟨tmps, []⟩) hr he hf hv
        exact ⟨v', r1, hR _ _ ι (.refl hr) ⟨rfl, v, rfl, r2⟩⟩
    | some v =>
      obtain ⟨v', hv, rfl⟩ := hp
      cases h
      exact hR _ _ ι (.refl hr) ⟨v, v', rfl, rfl, hv⟩
  | cons df ds ih =>
    intro es pan u ι m w out R h hr he hd hp hR
    cases hd with
    | cons hl ht =>
      rename_i cap args es
      simp only [leaves] at h
      cases ho : O (.dcall df.f pan) df.args m [] with
      | none => rw [ho] at h; cases h
      | some o =>
        rw [ho] at h
        simp only [Option.bind_some] at h
        obtain ⟨hen, hcall⟩ := hO.dcall df.f pan df.args m o ho ι w (args ++ cap) hr hl
        have hu : u ≠ .run := by
          cases pan with
          | none => simp only [PanRel] at hp; subst hp; simp
          | some v => obtain ⟨v', _, rfl⟩ := hp; simp
        refine leaves_cons hu (f := df.f) (args := args ++ cap) ?_ ?_
        · simpa [invoke] using hen
        · refine (hcall u hp).mono ?_
          rintro e u' w' ⟨ι', b, q1, q2, q3, ⟨v, rfl⟩, rfl, q4⟩
          simp only
          rw [q2, q3] at h
          simp only at h
          refine ih h q1.rel (he.mono q1.le) (ht.mono q1.le) ?_ (fun e w2 ι2 hp2 hen => hR e w2 ι2 (q1.trans hp2 hr) hen)
          cases pan with
          | none =>
            simp only [PanRel] at hp
            subst hp
            cases b with
            | true => exact absurd rfl (q4 rfl)
            | false => rfl
          | some v0 =>
            obtain ⟨v', hv, rfl⟩ := hp
            cases b with
            | true => rfl
            | false => exact ⟨v', hv.mono q1.le, rfl⟩

theorem env_of {ι : Inj} {l l' : List Value} (h : LRel ι l l') (t : Nat) : VRel ι (envOf l t) (l'.getD t undef) := by
  induction l generalizing l' t with
  | nil => rw [h.nil_inv]; exact .unk _
  | cons u r ih =>
    obtain ⟨v, r', rfl, h1, h2⟩ := h.cons_inv
    cases t with
    | zero => exact h1
    | succ t => simpa [envOf] using ih h2 t
theorem envOf_out : ∀ (l : List Value) (t : Nat), l.length ≤ t → envOf l t = undef := by
  intro l
  induction l with
  | nil => intro t _; rfl
  | cons u r ih =>
    intro t h
    cases t with
    | zero => simp at h
    | succ t => exact ih t (by simpa using h)
theorem enter_env {ι : Inj} {args : List Value} {vs : Array Value} (h : LRel ι args vs.toList) {n : Nat} (hn : args.length ≤ n) : ERel ι n (envOf args) (vs ++ Array.replicate (n - vs.size) undef) := by
  have hsz : args.length = vs.size := by simpa using h.1
  refine ⟨by simp; omega, fun t => ?_⟩
  by_cases ht : t < vs.size
  · have := env_of h t
    rw [Array.getD_eq_getD_getElem?, Array.getElem?_append_left ht]
    rw [List.getD_eq_getElem?_getD, Array.getElem?_toList] at this
    exact this
  · rw [envOf_out args t (by omega)]
    exact .unk _
end Go.Proofs.Ytjojfpmelhaknaa.D
