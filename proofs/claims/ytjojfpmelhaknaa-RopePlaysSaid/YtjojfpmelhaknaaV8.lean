/-
  What may be given to the second reading, and how it stands to the first.
-/
import Derived.Test.YtjojfpmelhaknaaV7
import Derived.Test.YtjojfpmelhaknaaF2
namespace Go.Proofs.Ytjojfpmelhaknaa.D
open Go.RowKit
set_option linter.unusedVariables false
set_option linter.unusedSimpArgs false
/-- A given function: of numbers, truths and texts; or one that makes a list of texts. -/
inductive GK where
  | pure (g : List Value → Option Value)
  | strs (g : List Value → Option (List (List UInt8)))
  | same
/-- An address, as it is. -/
def gSame : List Value → Option Value
  | [.pointer (some ⟨o, off, none⟩)] => some (.pointer (some ⟨o, off, none⟩))
  | _ => none
theorem gSame_some {a : List Value} {v : Value} (h : gSame a = some v) : ∃ o off, a = [.pointer (some ⟨o, off, none⟩)] ∧ v = .pointer (some ⟨o, off, none⟩) := by
  unfold gSame at h
  split at h
  · cases h; exact ⟨_, _, rfl, rfl⟩
  · cases h
def gkV : GK → List Value → Option Value
  | .pure g, a => g a
  | .strs g, a => (g a).map fun l => fz 1 true (l.map es)
  | .same, a => gSame a
def gkD : GK → List Value → Mem → Option (Value × Mem)
  | .pure g, a, m => (g a).map fun v => (v, m)
  | .strs g, a, m => (g a).map fun l => (.slice (some ⟨m.next, 0, none⟩) l.length l.length, m.push ⟨1, l.map S⟩)
  | .same, a, m => (gSame a).map fun v => (v, m)
/-- What a given function needs. -/
def gkB : GK → Prop
  | .pure g => ∀ args v, g args = some v → base v = true ∧ ∀ a ∈ args, base a = true
  | .strs g => ∀ args v, g args = some v → ∀ a ∈ args, base a = true
  | .same => True
theorem gk_sim {k : GK} (hk : gkB k) {ι : Im} {Φ : Pin} {m dm : Mem} {args dargs : List Value} {v : Value} (hm : MM ι Φ m dm) (ha : LR ι Φ args dargs) (hv : gkV k args = some v) : ∃ dv dm' Φ', gkD k dargs dm = some (dv, dm') ∧ R ι Φ' v dv ∧ Step2 ι Φ m dm ι Φ' m dm' := by
  cases k with
  | pure g =>
    obtain ⟨b1, b2⟩ := hk args v hv
    rw [lr_base_eq b2 ha]
    simp only [gkV] at hv
    simp only [gkD, hv, Option.map_some]
    exact ⟨_, _, Φ, rfl, .base b1, .refl hm⟩
  | strs g =>
    simp only [gkV] at hv
    cases hg : g args with
    | none => rw [hg] at hv; cases hv
    | some l =>
      have b2 := hk args l hg
      rw [hg] at hv
      cases hv
      rw [lr_base_eq b2 ha]
      simp only [gkD, hg, Option.map_some]
      obtain ⟨s1, s2⟩ := hm.pinned ⟨1, l.map S⟩
      refine ⟨_, _, _, rfl, .fro rfl (.fz (fz?_fz _ _ _) (if_pos rfl) (by simp) rfl (fun _ => rfl) (fun e he => ?_) (by simp) (fun i e j x y a b c => ?_)), s1⟩
      · obtain ⟨t, _, rfl⟩ := List.mem_map.1 he; rfl
      · rw [List.getElem?_map] at a
        cases ht : l[i]? with
        | none => rw [ht] at a; cases a
        | some t =>
          rw [ht] at a
          cases a
          have hj : j = 0 := by
            have := (List.getElem?_eq_some_iff.1 b).1
            simp at this; omega
          subst hj
          cases b
          simp only [Nat.zero_add, Nat.mul_one, Nat.add_zero, List.getElem?_map, ht, Option.map_some, Option.some.injEq] at c
          subst c
          exact .base rfl
  | same =>
    obtain ⟨o, off, rfl, rfl⟩ := gSame_some hv
    obtain ⟨d, t, rfl, h1, h2⟩ := ha.cons_inv
    have := h2.nil_inv
    subst this
    obtain ⟨q, ho, e, rfl⟩ := h1.addr? (o := o) (off := off) rfl
    exact ⟨_, _, Φ, rfl, .ptr ho, .refl hm⟩
def gvV (l : List (Nat × GK)) : FuncId → Option (List Value → Option Value) := fun f => (look l f).map gkV
def gvD (l : List (Nat × GK)) : FuncId → Option (List Value → Mem → Option (Value × Mem)) := fun f => (look l f).map gkD
theorem gvD_some {l : List (Nat × GK)} {f : FuncId} {g : List Value → Mem → Option (Value × Mem)} (h : gvD l f = some g) : ∃ k, (f, k) ∈ l ∧ g = gkD k := by
  unfold gvD at h
  cases hl : look l f with
  | none => rw [hl] at h; cases h
  | some k => rw [hl] at h; cases h; exact ⟨k, look_mem hl, rfl⟩
theorem gk_kp {k : GK} {args : List Value} {m m' : Mem} {v : Value} (h : gkD k args m = some (v, m')) : KP m m' := by
  cases k with
  | pure g =>
    simp only [gkD] at h
    cases hg : g args with
    | none => rw [hg] at h; cases h
    | some u => rw [hg] at h; cases h; exact .refl _
  | strs g =>
    simp only [gkD] at h
    cases hg : g args with
    | none => rw [hg] at h; cases h
    | some u => rw [hg] at h; cases h; exact .push _ _
  | same =>
    simp only [gkD] at h
    cases hg : gSame args with
    | none => rw [hg] at h; cases h
    | some u => rw [hg] at h; cases h; exact .refl _
/-- Behind a given function. -/
def gkE (k : GK) (args : List Value) (w : World) (e : Ending) (w' : World) : Prop :=
  match k with
  | .pure g => ∃ v, g args = some v ∧ e = .returned v ∧ Below w.heap.size w w'
  | .strs g => ∃ l ty, g args = some l ∧ e = .returned (.slice (some ⟨w.heap.size, 0, none⟩) l.length l.length) ∧ w' = w.alloc (.cells (l.map S).toArray ty)
  | .same => ∃ v, gSame args = some v ∧ e = .returned v ∧ Below w.heap.size w w'
/-- The machine's own arguments will do. -/
theorem gk_args {k : GK} (hk : gkB k) {ι : Inj} {m m' : Mem} {args vs : List Value} {v : Value} (ha : LRel ι args vs) (hv : gkD k args m = some (v, m')) : ∃ v2 m2, gkD k vs m = some (v2, m2) := by
  cases k with
  | pure g =>
    simp only [gkD] at hv
    cases hg : g args with
    | none => rw [hg] at hv; cases hv
    | some u => rw [lrel_bases (hk args u hg).2 ha]; exact ⟨_, _, by simp only [gkD, hg]; rfl⟩
  | strs g =>
    simp only [gkD] at hv
    cases hg : g args with
    | none => rw [hg] at hv; cases hv
    | some u => rw [lrel_bases (hk args u hg) ha]; exact ⟨_, _, by simp only [gkD, hg]; rfl⟩
  | same =>
    simp only [gkD] at hv
    cases hg : gSame args with
    | none => rw [hg] at hv; cases hv
    | some u =>
      obtain ⟨o, off, rfl, rfl⟩ := gSame_some hg
      obtain ⟨d, t, rfl, h1, h2⟩ := ha.cons_inv
      have := h2.nil_inv
      subst this
      obtain ⟨o', off', g, e, ho, rfl⟩ := h1.of_ptr
      exact ⟨_, _, rfl⟩
theorem gk_post {k : GK} (hk : gkB k) {cx : Cx} {ι : Inj} {m m' : Mem} {w w' : World} {args vs : List Value} {v : Value} {e : Ending} (h : Rel cx ι m w) (ha : LRel ι args vs) (hv : gkD k args m = some (v, m')) (he : gkE k vs w e w') : ∃ ι', Post cx ι m w ι' m' w' ∧ ∃ v', e = .returned v' ∧ VRel ι' v v' := by
  cases k with
  | pure g =>
    have hvs : vs = args := by
      simp only [gkD] at hv
      cases hg : g args with
      | none => rw [hg] at hv; cases hv
      | some u => exact lrel_bases (hk args u hg).2 ha
    subst hvs
    obtain ⟨u, h1, rfl, h3⟩ := he
    simp only [gkD, h1, Option.map_some, Option.some.injEq, Prod.mk.injEq] at hv
    obtain ⟨rfl, rfl⟩ := hv
    exact ⟨ι, Post.ext h (Ext.of_below h3), _, rfl, .base (hk _ _ h1).1⟩
  | same =>
    obtain ⟨u, h1, rfl, h3⟩ := he
    simp only [gkD] at hv
    cases hg : gSame args with
    | none => rw [hg] at hv; cases hv
    | some u2 =>
      rw [hg] at hv
      cases hv
      obtain ⟨o, off, rfl, rfl⟩ := gSame_some hg
      obtain ⟨d, t, rfl, k1, k2⟩ := ha.cons_inv
      have := k2.nil_inv
      subst this
      obtain ⟨o', off', g, e, ho, rfl⟩ := k1.of_ptr
      cases h1
      exact ⟨ι, Post.ext h (Ext.of_below h3), _, rfl, k1⟩
  | strs g =>
    have hvs : vs = args := by
      simp only [gkD] at hv
      cases hg : g args with
      | none => rw [hg] at hv; cases hv
      | some u => exact lrel_bases (hk args u hg) ha
    subst hvs
    obtain ⟨l, ty, h1, rfl, rfl⟩ := he
    simp only [gkD, h1, Option.map_some, Option.some.injEq, Prod.mk.injEq] at hv
    obtain ⟨rfl, rfl⟩ := hv
    have hc : LRel ι (l.map S) (l.map S) := LRel.base fun v hv => by obtain ⟨t, _, rfl⟩ := List.mem_map.1 hv; rfl
    refine ⟨_, new_sound h (.refl w) ty 1 (l.map S) (l.map S).toArray (by simp) (lrel_arr (by simpa using hc)) (fun v hv => by obtain ⟨t, _, rfl⟩ := List.mem_map.1 hv; rfl) ⟨fun t e => by have := mark_ge t; omega, fun e => by simp [C8] at e⟩, _, rfl, ?_⟩
    exact slice_new (cx := cx) (Nat.le_refl _) (Nat.le_refl _) (fun h => h) (by simp [unit])
end Go.Proofs.Ytjojfpmelhaknaa.D
