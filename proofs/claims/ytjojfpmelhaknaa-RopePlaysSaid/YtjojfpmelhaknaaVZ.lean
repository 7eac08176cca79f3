/-
  From the second reading to the machine: what is given holds, the package's own check is true, and what a law answers.
-/
import Derived.Test.YtjojfpmelhaknaaX
namespace Go.Proofs.Ytjojfpmelhaknaa.D
open Go.RowKit
set_option linter.unusedVariables false
set_option linter.unusedSimpArgs false
theorem irs_ok : (irsT.all fun x => okC x.2.body) = true := by kernel_rfl
theorem lps_ok : (lpsT.all fun x => okC x.2.2) = true := by kernel_rfl
def CVg (l : List (Nat × GK)) : CodeV := ⟨look irsT, look lpsT, gvV l, fun f => puT.contains f⟩
theorem CR_of {l : List (Nat × GK)} (hl : ∀ x ∈ l, gkB x.2) : CR (CVg l) (CC (gvD l)) := by
  refine ⟨fun f fn h => ⟨h, ?_⟩, fun k p h => ⟨h, ?_⟩, fun f h => ?_, fun f g h => ?_⟩
  · exact List.all_eq_true.1 irs_ok _ (look_mem h)
  · exact List.all_eq_true.1 lps_ok _ (look_mem h)
  · show (look l f).map gkD = none
    have h : (look l f).map gkV = none := h
    cases hk : look l f with
    | none => rfl
    | some k => rw [hk] at h; cases h
  · have h : (look l f).map gkV = some g := h
    cases hk : look l f with
    | none => rw [hk] at h; cases h
    | some k =>
      rw [hk] at h
      cases h
      exact ⟨gkD k, by show (look l f).map gkD = _; rw [hk]; rfl, fun ι Φ m dm args dargs v hm ha hv => gk_sim (hl _ (look_mem hk)) hm ha hv⟩
theorem mixed : Try.prog.follows .mixedOrders = true := by kernel_rfl
theorem GS_of {l : List (Nat × GK)} (hl : ∀ x ∈ l, GvOk x.1 x.2) {W : World} (hW : GOK W) (lo : Nat) : GS ⟨Try.prog, W, W.heap.size, lo⟩ (CC (gvD l)) := by
  refine ⟨mixed, CC_fit _, fun f g h args m v m' hv => ?_, fun f g h args m v m' hv ι w vs hr ha => ?_⟩
  · obtain ⟨k, _, rfl⟩ := gvD_some h
    exact gk_kp hv
  · obtain ⟨k, hk, rfl⟩ := gvD_some h
    obtain ⟨k1, k2⟩ := hl _ hk
    obtain ⟨v2, m2, hv2⟩ := gk_args (m := m) k1 ha hv
    have hG : GOK w := hW.below hr.below
    have h3 := k2 _ v2 m m2 hv2 w hG
    simp only [Array.toArray_toList] at h3
    rcases h3 with ⟨a, b⟩ | ⟨x, w', a, b⟩
    · exact .inl ⟨a, b.mono fun e w' he => gk_post k1 hr ha hv he⟩
    · exact .inr ⟨x, w', a, gk_post k1 hr ha hv b⟩
theorem MM.none : MM (fun _ => none) (fun _ => none) ⟨[], 0, 0, 0⟩ ⟨[], 0, 0, 0⟩ :=
  ⟨Nat.le_refl _, Nat.le_refl _, fun _ _ h => (by cases h), fun _ _ h => (by cases h), fun _ _ _ h => (by cases h), fun _ _ h => (by cases h)⟩
/-- What is read of a call of numbers, truths and texts. -/
theorem call_base {l : List (Nat × GK)} (hl : ∀ x ∈ l, GvOk x.1 x.2) {f : FuncId} {fn : IFun} (hf : look irsT f = some fn) {args : List Value} (hb : ∀ a ∈ args, base a = true) {m' : Mem} (hr : LV (CVg l) (.call f) args ⟨[], 0, 0, 0⟩ [] = some ⟨.ret, [.bool true], m', []⟩) {W : World} (hG : GOK W) :
    Calls Try.prog f args.toArray W fun e w' => e = .returned (.bool true) ∧ Below W.heap.size W w' := by
  obtain ⟨dr, ι', Φ', e1, e2, e3⟩ := LV_sim (CR_of fun x hx => (hl x hx).1) _ _ _ _ _ _ _ _ _ _ _ MM.none (.call f) (LR.base hb) .nil hr
  obtain ⟨x, vals, dm', dd⟩ := dr
  obtain ⟨hx, hv, hd⟩ := e2
  simp only at hx hv hd
  cases hx
  obtain ⟨v, t, rfl, h1, h2⟩ := hv.cons_inv
  have := h1.of_bool
  subst this
  have := h2.nil_inv
  subst this
  cases hd
  exact contract (Ini.nil W) (GS_of hl hG 0) (LRel.base hb) e1 hf
def isTrueV (o : Option Out) : Bool := match o with | some ⟨.ret, [.bool true], _, []⟩ => true | _ => false
theorem isTrueV_some {o : Option Out} (h : isTrueV o = true) : ∃ m, o = some ⟨.ret, [.bool true], m, []⟩ := by
  unfold isTrueV at h
  split at h
  · exact ⟨_, rfl⟩
  · cases h
/-- The check is read in the first reading: it may hold what the second one has no value for. -/
theorem alive_run : isTrueV (E (CC (gvD gnT)) 100 (.call 10) [] ⟨[], 0, 0, 0⟩ []) = true := by kernel_rfl
theorem alive_ok : GvOk 10 (.pure gTrue) := by
  refine pure_ok fun args v h => ?_
  unfold gTrue at h
  split at h
  · cases h
    refine ⟨rfl, fun a ha => (by cases ha), fun w hw => ?_⟩
    obtain ⟨m', e⟩ := isTrueV_some alive_run
    have hc := contract (Ini.nil w) (GS_of gn_ok hw 0) (f := 10) (args := []) (vs := #[]) LRel.nil (L_some.2 ⟨_, e⟩) (fn := ir10) rfl
    exact goes_calls Try.func10 rfl rfl hc
  · cases h
theorem g_ok : ∀ x ∈ gT, GvOk x.1 x.2 := by
  intro x hx
  simp only [gT, List.mem_cons] at hx
  rcases hx with rfl | hx
  · exact alive_ok
  · exact gn_ok x hx
end Go.Proofs.Ytjojfpmelhaknaa.D
