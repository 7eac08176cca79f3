/-
  The second reading: an operation, and the control above it.
-/
import Derived.Test.YtjojfpmelhaknaaV3
namespace Go.Proofs.Ytjojfpmelhaknaa.D
open Go.RowKit
set_option linter.unusedVariables false
set_option linter.unusedSimpArgs false
theorem chunk_len (sz : Nat) : ∀ (n : Nat) (l : List Value), (chunk sz n l).length = n := by
  intro n
  induction n with
  | zero => intro l; rfl
  | succ n ih => intro l; simp [chunk, ih]
theorem chunk_mem {sz : Nat} : ∀ {n : Nat} {l : List Value}, n * sz ≤ l.length → ∀ e ∈ chunk sz n l, e.length = sz := by
  intro n
  induction n with
  | zero => intro l _ e he; simp [chunk] at he
  | succ n ih =>
    intro l h e he
    rw [Nat.add_mul] at h
    simp only [chunk, List.mem_cons] at he
    rcases he with rfl | he
    · simp; omega
    · exact ih (l := l.drop sz) (by simp; omega) e he
theorem chunk_get {sz : Nat} : ∀ {n : Nat} {l : List Value} {i j : Nat} {e : List Value} {x : Value}, (chunk sz n l)[i]? = some e → e[j]? = some x → l[i * sz + j]? = some x := by
  intro n
  induction n with
  | zero => intro l i j e x h; simp [chunk] at h
  | succ n ih =>
    intro l i j e x h hx
    cases i with
    | zero =>
      simp only [chunk, List.getElem?_cons_zero, Option.some.injEq] at h
      subst h
      rw [List.getElem?_take] at hx
      split at hx
      · simpa using hx
      · cases hx
    | succ i =>
      simp only [chunk, List.getElem?_cons_succ] at h
      have := ih h hx
      rw [List.getElem?_drop] at this
      rw [← this, Nat.add_mul]
      congr 1; omega
section
variable {ι : Im} {Φ : Pin} {m dm : Mem}
theorem aSrc_R (hm : MM ι Φ m dm) {str : Bool} {sz : Nat} {y y' : Value} (h1 : R ι Φ y y') {k : Nat} {l : List Value} (h : aSrc str sz y m = some (k, l)) : ∃ l', aSrc str sz y' dm = some (k, l') ∧ LR ι Φ l l' := by
  unfold aSrc at h ⊢
  cases str with
  | true =>
    simp only at h ⊢
    cases hs : str? y with
    | none => rw [hs] at h; cases h
    | some s =>
      rw [hs] at h; rw [h1.str? hs]
      simp only [Option.bind_some] at h ⊢
      split at h
      · rw [if_pos ‹_›]; cases h
        exact ⟨_, rfl, .base (fun v hv => by simp only [List.mem_map] at hv; obtain ⟨b, _, rfl⟩ := hv; rfl)⟩
      · cases h
  | false =>
    simp only at h ⊢
    cases hs : slc? y with
    | none => rw [hs] at h; cases h
    | some p =>
      rw [hs] at h
      cases p with
      | nil => rw [h1.slc?_nil hs]; cases h; exact ⟨_, rfl, .nil⟩
      | at_ o off n c =>
        obtain ⟨q, ho, e, _⟩ := h1.slc?_at hs
        rw [e]
        simp only [Option.bind_some] at h ⊢
        cases hl : m.at_ o off (n * sz) with
        | none => rw [hl] at h; cases h
        | some l0 =>
          obtain ⟨l', a, b⟩ := hm.at_ ho hl
          rw [hl] at h; rw [a]; cases h
          exact ⟨_, rfl, b⟩
theorem vSrc_R (hm : MM ι Φ m dm) {str : Bool} {sz : Nat} {y y' : Value} (h1 : R ι Φ y y') {k : Nat} {l : List Value} (h : vSrc str sz y m = some (k, l)) : ∃ l', aSrc str sz y' dm = some (k, l') ∧ LR ι Φ l l' := by
  unfold vSrc at h
  cases str with
  | true => exact aSrc_R hm h1 h
  | false =>
    simp only at h
    split at h
    · rename_i s tt els hz
      obtain ⟨q, off, c, r, rfl, hq, hs, ht, hl, hb, hel⟩ := h1.of_fz hz
      split at h
      · subst_vars
        cases h
        refine ⟨(r.cells.drop off).take (els.length * unit r.sz), ?_, fz_flat hl hb hel⟩
        unfold aSrc
        simp only [slc?, Option.bind_some, Mem.at_, (hm.pin _ _ hq).1]
        rw [if_pos hb]
        rfl
      · cases h
    · exact aSrc_R hm h1 h
theorem vApp_R (hm : MM ι Φ m dm) {str : Bool} {sz bytes : Nat} {x y x' y' v : Value} {m' : Mem} (h1 : R ι Φ x x') (h2 : R ι Φ y y') (h : vApp str sz bytes x y m = some (v, m')) :
    ∃ dv dm' ι', aApp str sz bytes x' y' dm = some (dv, dm') ∧ R ι' Φ v dv ∧ Step2 ι Φ m dm ι' Φ m' dm' := by
  unfold vApp at h
  unfold aApp
  cases hsrc : vSrc str (unit sz) y m with
  | none => rw [hsrc] at h; cases h
  | some p =>
    obtain ⟨k, l⟩ := p
    obtain ⟨l', s1, s2⟩ := vSrc_R hm h2 hsrc
    rw [hsrc] at h
    rw [s1]
    simp only [Option.bind_some] at h ⊢
    split at h
    · rename_i s tt els hz
      obtain ⟨q, off, c, r, rfl, hq, hs, ht, hl, hb, hel⟩ := h1.of_fz hz
      simp only [slc?, Option.bind_some]
      split at h
      · rw [if_pos ‹_›]; cases h; exact ⟨_, _, ι, rfl, h1, .refl hm⟩
      · rw [if_neg ‹_›]
        split at h
        · rw [if_pos ‹_›]
          split at h
          · rename_i hst
            obtain ⟨rfl, rfl⟩ := hst
            cases h
            rw [if_pos (ht rfl)]
            simp only [Mem.at_, (hm.pin _ _ hq).1, Option.bind_some]
            rw [if_pos hb]
            simp only [Option.bind_some]
            have k1 := hm.push (r := ⟨sz, els.flatten ++ l⟩) (dr := ⟨sz, (r.cells.drop off).take (els.length * unit sz) ++ l'⟩) rfl ((fz_flat hl hb hel).append s2)
            exact ⟨_, _, _, rfl, .slice (Im.ins_new _ _ _), k1⟩
          · cases h
        · cases h
    · cases hs : slc? x with
      | none => rw [hs] at h; cases h
      | some p =>
        rw [hs] at h
        cases p with
        | nil =>
          rw [h1.slc?_nil hs]
          simp only [Option.bind_some] at h ⊢
          split at h
          · rw [if_pos ‹_›]; cases h; exact ⟨_, _, ι, rfl, h1, .refl hm⟩
          · rw [if_neg ‹_›]
            split at h
            · rw [if_pos ‹_›]; cases h
              exact ⟨_, _, _, rfl, .slice (Im.ins_new _ _ _), hm.push rfl s2⟩
            · cases h
        | at_ o off n c =>
          obtain ⟨q, ho, e, _⟩ := h1.slc?_at hs
          rw [e]
          simp only [Option.bind_some] at h ⊢
          split at h
          · rw [if_pos ‹_›]; cases h; exact ⟨_, _, ι, rfl, h1, .refl hm⟩
          · rw [if_neg ‹_›]
            split at h
            · rw [if_pos ‹_›]
              split at h
              · rw [if_pos ‹_›]
                cases hl : m.at_ o off (n * unit sz) with
                | none => rw [hl] at h; cases h
                | some l0 =>
                  obtain ⟨l0', a, b⟩ := hm.at_ ho hl
                  rw [hl] at h; rw [a]; cases h
                  exact ⟨_, _, _, rfl, .slice (Im.ins_new _ _ _), hm.push rfl (b.append s2)⟩
              · rw [if_neg ‹_›]
                cases hr : m.get o with
                | none => rw [hr] at h; cases h
                | some r =>
                  obtain ⟨dr, a1, a2, a3, a4, a5⟩ := hm.live ho hr
                  rw [hr] at h; rw [a1]
                  simp only [Option.bind_some] at h ⊢
                  split at h
                  · rename_i hc
                    rw [if_pos ⟨a5.1 hc.1, by rw [← a2]; exact hc.2.1, by rw [← a3.1]; exact hc.2.2⟩]
                    cases h
                    exact ⟨_, _, _, rfl, .slice (Im.ins_new _ _ _), hm.swap ho (by rw [hr]; simp) rfl ((a3.drop off).append s2)⟩
                  · cases h
            · cases h
/-- A new row that is fixed at once. -/
theorem MM.pinned {ι : Im} {Φ : Pin} {m dm : Mem} (h : MM ι Φ m dm) (r : Row) : Step2 ι Φ m dm ι (fun q => if q = dm.next then some r else Φ q) m (dm.push r) ∧ Pin.le Φ (fun q => if q = dm.next then some r else Φ q) := by
  have hp : Pin.le Φ (fun q => if q = dm.next then some r else Φ q) := fun q x hq => by
    simp only
    rw [if_neg (by have := (h.pin q x hq).2; omega)]; exact hq
  refine ⟨⟨⟨?_, ?_, ?_, ?_, h.inj, ?_⟩, .refl _, fun _ _ x => .inl x, hp, ?_, rfl, rfl, rfl, Nat.le_refl _, by simp, ?_, fun _ _ x => x⟩, hp⟩
  · have := h.lonext; simp only [Mem.lo_push, Mem.next_push]; omega
  · have := h.ronext; simp only [Mem.ro_push, Mem.next_push]; omega
  · intro o q ho
    obtain ⟨a, b⟩ := h.dom o q ho
    exact ⟨a, by simp only [Mem.next_push]; omega⟩
  · intro o x hx
    obtain ⟨q, dr, a, b, c, d, e, f, f2⟩ := h.row o x hx
    have := (h.dom o q a).2
    refine ⟨q, dr, a, ?_, c, d.mono (.refl _) hp, e, f, by rw [if_neg (by omega)]; exact f2⟩
    rw [Mem.get_push, if_neg (by omega)]; exact b
  · intro q x hq
    simp only [Mem.next_push]
    rw [Mem.get_push]
    split at hq
    · subst_vars; cases hq; exact ⟨by simp, by omega⟩
    · obtain ⟨a, b⟩ := h.pin q x hq
      rw [if_neg ‹_›]
      exact ⟨a, by omega⟩
  · intro q x hq
    split at hq
    · subst_vars; exact .inr (.inl (Nat.le_refl _))
    · exact .inl hq
  · intro q hq _
    rw [Mem.get_push, if_neg (by omega)]
theorem clo_FR : ∀ (k : Nat) {v d : Value}, clo k v = true → R ι Φ v d → FR Φ v d := by
  intro k
  induction k with
  | zero => intro v d h; cases h
  | succ k ih =>
    intro v d hc h
    cases h with
    | unk d => exact .unk d
    | gone => simp [clo, base] at hc
    | fro ht h => exact h
    | base h => exact .base h
    | ptr h => simp [clo, base] at hc
    | slice h => simp [clo, base] at hc
    | func h1 h2 h3 h4 =>
      simp only [clo, Bool.and_eq_true, List.all_eq_true] at hc
      exact .func h1 (fun i u v a b => ih (hc.1 u (Array.mem_toList_iff.2 (Array.mem_of_getElem? a))) (h2 i u v a b)) h3 (fun i u v a b => ih (hc.2 u (Array.mem_toList_iff.2 (Array.mem_of_getElem? a))) (h4 i u v a b))
    | iface ht h =>
      simp only [clo, ht, Bool.false_or] at hc
      exact .iface ht (ih hc h)
    | agg h1 h2 =>
      simp only [clo, List.all_eq_true] at hc
      exact .agg h1 (fun i u v a b => ih (hc u (Array.mem_toList_iff.2 (Array.mem_of_getElem? a))) (h2 i u v a b))
    | tuple h1 h2 => simp [clo, base] at hc
theorem pure_step (hm : MM ι Φ m dm) {x y : Option Value} {v : Value} {m' : Mem} (h : only m x = some (v, m')) (k : ∀ v, x = some v → Ans ι Φ v y) : ∃ dv dm' ι' Φ', only dm y = some (dv, dm') ∧ R ι' Φ' v dv ∧ Step2 ι Φ m dm ι' Φ' m' dm' := by
  obtain ⟨a, rfl⟩ := only_some h
  obtain ⟨d, b, c⟩ := k v a
  exact ⟨d, dm, ι, Φ, by rw [b]; rfl, c, .refl hm⟩
theorem lr_map {ρ dρ : Operand → Value} (h : ∀ x, R ι Φ (ρ x) (dρ x)) (as : List Operand) : LR ι Φ (as.map ρ) (as.map dρ) := by
  induction as with
  | nil => exact .nil
  | cons a t ih => exact .cons (h a) ih
theorem zeros_lr {z : List Value} (h : z.all base = true) (n : Nat) : LR ι Φ (zerosL z n) (zerosL z n) := .base (zerosL_mem (by simpa using h))
theorem vop_sim (hm : MM ι Φ m dm) {ρ dρ : Operand → Value} (hρ : ∀ x, R ι Φ (ρ x) (dρ x)) {p : POp} (hp : okP p = true) {v : Value} {m' : Mem} (h : vop p ρ m = some (v, m')) :
    ∃ dv dm' ι' Φ', aop p dρ dm = some (dv, dm') ∧ R ι' Φ' v dv ∧ Step2 ι Φ m dm ι' Φ' m' dm' := by
  cases p with
  | move x => cases h; exact ⟨_, _, ι, Φ, rfl, hρ x, .refl hm⟩
  | pick c a b =>
    simp only [vop, aop] at h ⊢
    cases hc : bool? (ρ c) with
    | none => rw [hc] at h; cases h
    | some t =>
      rw [hc] at h; rw [(hρ c).bool? hc]
      cases h
      refine ⟨_, _, ι, Φ, rfl, ?_, .refl hm⟩
      cases t <;> simp [hρ]
  | new sz z =>
    cases h
    exact ⟨_, _, _, Φ, rfl, .ptr (Im.ins_new _ _ _), hm.push rfl (.bases hp)⟩
  | box sz x =>
    simp only [vop, aop, aBox] at h ⊢
    split at h
    · cases h
      rw [if_pos ((hρ x).known ‹_›)]
      exact ⟨_, _, _, Φ, rfl, .ptr (Im.ins_new _ _ _), hm.push rfl ((hρ x).cells ‹_›)⟩
    · cases h
  | build ps z parts => exact pure_step hm h fun v hv => aBuild_R hρ hp hv
  | lit sz n z parts =>
    simp only [vop, aop, vLit, aLit] at h ⊢
    split at h
    · rw [if_pos ‹_›]
      cases hf : fillL (fun i => if i < n then some (i * unit sz, unit sz) else none) (zerosL z n) (parts.map fun p => (p.1, ρ p.2)) with
      | none => rw [hf] at h; cases h
      | some l =>
        rw [hf] at h
        obtain ⟨l', a, b⟩ := parts_lr hρ parts _ _ l (zeros_lr hp n) hf
        rw [a]
        simp only [Option.bind_some] at h ⊢
        split at h
        · rename_i hc
          cases h
          simp only [Bool.and_eq_true, beq_iff_eq, List.all_eq_true] at hc
          obtain ⟨s1, s2⟩ := hm.pinned ⟨sz, l'⟩
          refine ⟨_, _, ι, _, rfl, .fro rfl (.fz (r := ⟨sz, l'⟩) (fz?_fz _ _ _) (if_pos rfl) (chunk_len _ _ _).symm rfl (fun _ => rfl) (chunk_mem (Nat.le_of_eq hc.1.symm)) (by simp only; rw [← b.1, hc.1]; omega) (fun i e j x y p1 p2 p3 => ?_)), s1⟩
          have hx := chunk_get p1 p2
          simp only [Nat.zero_add] at p3
          exact (clo_FR FUEL (hc.2 x (List.mem_of_getElem? hx)) (b.2 _ _ _ hx p3)).mono s2
        · cases h
          exact ⟨_, _, _, Φ, rfl, .slice (Im.ins_new _ _ _), hm.push rfl b⟩
    · cases h
  | load n g a => simp only [aop, aLoad_eq]; exact pure_step hm h fun v hv => vLd_R hm (hρ a) hv
  | store n a x =>
    simp only [vop, aop, aStore_eq] at h ⊢
    cases hs : aSt n (ρ a) (ρ x) m with
    | none => rw [hs] at h; cases h
    | some m1 =>
      rw [hs] at h
      cases h
      unfold aSt at hs ⊢
      cases ha : addr? (ρ a) with
      | none => rw [ha] at hs; cases hs
      | some p =>
        obtain ⟨o, off⟩ := p
        obtain ⟨q, ho, e, _⟩ := (hρ a).addr? ha
        rw [ha] at hs; rw [e]
        simp only [Option.bind_some] at hs ⊢
        split at hs
        · rename_i hc
          have hcell := (hρ x).cells hc.1
          rw [if_pos ⟨(hρ x).known hc.1, by have := hcell.1; simp only [Array.length_toList] at this; omega⟩]
          obtain ⟨dm', b1, b2⟩ := hm.st ho hcell hs
          rw [b1]
          exact ⟨_, _, ι, Φ, rfl, .unk _, b2⟩
        · cases hs
  | nilCheck x => exact pure_step hm h fun v hv => vCheck_R (hρ x) hv
  | bin op x y => exact pure_step hm h fun v hv => aBin_R (hρ x) (hρ y) hv
  | un op x => exact pure_step hm h fun v hv => aUn_R (hρ x) hv
  | eqB neg x y => exact pure_step hm h fun v hv => aEqB_R (hρ x) (hρ y) hv
  | eqS neg ks x y => exact pure_step hm h fun v hv => aEqS_R (hρ x) (hρ y) hv
  | isNil k neg x => exact pure_step hm h fun v hv => vIsNil_R (hρ x) hv
  | toInt k x => exact pure_step hm h fun v hv => aInt_R (hρ x) hv
  | same x => exact pure_step hm h fun v hv => aSame_R (hρ x) hv
  | toBytes x =>
    simp only [vop, aop, aBytes] at h ⊢
    cases hs : str? (ρ x) with
    | none => rw [hs] at h; cases h
    | some s =>
      rw [hs] at h; rw [(hρ x).str? hs]
      cases h
      exact ⟨_, _, _, Φ, rfl, .slice (Im.ins_new _ _ _), hm.push rfl (.base (fun v hv => by simp only [List.mem_map] at hv; obtain ⟨b, _, rfl⟩ := hv; rfl))⟩
  | mark x => exact pure_step hm h fun v hv => aMark_R hm (hρ x) hv
  | toStr x => exact pure_step hm h fun v hv => vStr_R hm (hρ x) hv
  | iface t x =>
    obtain ⟨a, rfl⟩ := only_some h
    unfold vIface at a
    split at a
    · cases a
    · rename_i ht
      cases a
      exact ⟨_, _, ι, Φ, rfl, .iface (by simpa using ht) (hρ x), .refl hm⟩
  | func fn f c =>
    cases h
    have h1 := lr_map hρ f
    have h2 := lr_map hρ c
    refine ⟨_, _, ι, Φ, rfl, .func (by simp) (fun i u v a b => h1.2 i u v (by simpa using a) (by simpa using b)) (by simp) (fun i u v a b => h2.2 i u v (by simpa using a) (by simpa using b)), .refl hm⟩
  | make sz b z l c =>
    simp only [vop, aop, aMake] at h ⊢
    cases hl : int? (ρ l) with
    | none => rw [hl] at h; cases h
    | some p =>
      cases hc : int? (ρ c) with
      | none => rw [hl, hc] at h; cases h
      | some q =>
        rw [hl, hc] at h; rw [(hρ l).int? hl, (hρ c).int? hc]
        simp only [Option.bind_some] at h ⊢
        split at h
        · rw [if_pos ‹_›]
          split at h
          · rw [if_pos ‹_›]
            split at h
            · rw [if_pos ‹_›]
              split at h
              · rw [if_pos ‹_›]
                cases h
                exact ⟨_, _, _, Φ, rfl, .slice (Im.ins_new _ _ _), hm.push rfl (zeros_lr hp _)⟩
              · cases h
            · cases h
          · cases h
        · cases h
  | cutStr x lo hi => exact pure_step hm h fun v hv => aCutStr_R (hρ x) (OR2.map hρ lo) (OR2.map hρ hi) hv
  | cut sz x lo hi => exact pure_step hm h fun v hv => vCut_R hm (hρ x) (OR2.map hρ lo) (OR2.map hρ hi) hv
  | cut3 sz x lo hi mx => exact pure_step hm h fun v hv => vCut3_R hm (hρ x) (OR2.map hρ lo) (OR2.map hρ hi) (OR2.map hρ mx) hv
  | cutArr n sz x lo hi => exact pure_step hm h fun v hv => aCutArr_R hm (hρ x) (OR2.map hρ lo) (OR2.map hρ hi) hv
  | fieldAddr off x => exact pure_step hm h fun v hv => vFieldAddr_R (hρ x) hv
  | field g n off x => exact pure_step hm h fun v hv => aField_R (hρ x) hv
  | idx sz x i => exact pure_step hm h fun v hv => vIdx_R (hρ x) (hρ i) hv
  | idxArr n sz x i => exact pure_step hm h fun v hv => vIdxArr_R (hρ x) (hρ i) hv
  | byte x i => exact pure_step hm h fun v hv => aByte_R (hρ x) (hρ i) hv
  | elem g n sz x i => exact pure_step hm h fun v hv => aElem_R (hρ x) (hρ i) hv
  | extract i x => exact pure_step hm h fun v hv => aExtract_R (hρ x) hv
  | assert t ok z x => exact pure_step hm h fun v hv => vAssert_R hp (hρ x) hv
  | len s x =>
    cases s
    · exact pure_step hm h fun v hv => vLenL_R (hρ x) hv
    · exact pure_step hm h fun v hv => aLenS_R (hρ x) hv
  | app s sz b x y => obtain ⟨dv, dm', ι', a1, a2, a3⟩ := vApp_R hm (hρ x) (hρ y) h; exact ⟨dv, dm', ι', Φ, a1, a2, a3⟩
  | mm mx xs => exact pure_step hm h fun v hv => aMax_R (lr_map hρ xs) hv
  | eqP neg x y => exact pure_step hm h fun v hv => aEqP_R (hρ x) (hρ y) hv
  | toUns x => exact pure_step hm h fun v hv => aToUns_R hm (hρ x) hv
  | fromUns u n x => exact pure_step hm h fun v hv => aFromUns_R hm (hρ x) hv
  | sdata x => exact pure_step hm h fun v hv => aSData_R (hρ x) hv
  | ustr x n => obtain ⟨dv, dm', a1, a2, a3⟩ := aUStr_R hm (hρ x) (hρ n) h; exact ⟨dv, dm', ι, Φ, a1, a2, a3⟩
end
end Go.Proofs.Ytjojfpmelhaknaa.D
