/-
  A deterministic reading of the program's code: a region whose order is open comes to the same in each order.
-/
import Derived.Test.YtjojfpmelhaknaaD14
namespace Go.Proofs.Ytjojfpmelhaknaa.D
open Go.RowKit
set_option linter.unusedVariables false
set_option linter.unusedSimpArgs false

def cutI (U : Inj) (b : Nat) : Inj := fun o => if o < b then U o else none
theorem cutI_le {U : Inj} {a b : Nat} (h : a ≤ b) : Inj.le (cutI U a) (cutI U b) := fun o g hg => by
  unfold cutI at hg ⊢
  split at hg
  · rw [if_pos (by omega)]; exact hg
  · cases hg
/-- The same blocks, but for what is marked of them, and new ones behind. -/
structure Exs (w w' : World) : Prop where
  size : w.heap.size ≤ w'.heap.size
  old : ∀ k, k < w.heap.size → Same (w.heap[k]?) (w'.heap[k]?)
theorem Exs.refl (w : World) : Exs w w := ⟨Nat.le_refl _, fun _ _ => .inl rfl⟩
theorem Exs.trans {a b c : World} (h : Exs a b) (k : Exs b c) : Exs a c := ⟨Nat.le_trans h.size k.size, fun i hi => (h.old i hi).trans (k.old i (Nat.lt_of_lt_of_le hi h.size))⟩
theorem Ext.soft {w w' : World} (h : Ext w w') : Exs w w' := ⟨h.size, fun k hk => .inl (h.old k hk).symm⟩
theorem Rel.exs {cx : Cx} {ι : Inj} {m : Mem} {w w' : World} (h : Rel cx ι m w) (k : Exs w w') (hb : Below cx.B cx.w0 w') : Rel cx ι m w' :=
  ⟨hb, Nat.le_trans h.base k.size, h.lo, h.lonext, h.tight, fun o g x => Nat.lt_of_lt_of_le (h.lt o g x) k.size, h.own, fun o g r a b => (h.obj o g r a b).move (.refl _) (k.old _ (h.lt o g a)), h.ro⟩
theorem Rel.ext {cx : Cx} {ι : Inj} {m : Mem} {w w' : World} (h : Rel cx ι m w) (k : Ext w w') : Rel cx ι m w' := (Post.ext h k).rel

/-! ### What is ahead of what -/
def edgesOf (o : Oper) : List Edge := o.after.toList.filter fun e => Region.binds .any e
theorem closure_aux {os : Array Oper} (S : Nat → Prop) (hS : ∀ (i : Nat) o, os[i]? = some o → S i → ∀ e ∈ o.after.toList, Region.binds .any e = true → S e.on) :
    ∀ (l pre : List Oper) (acc : List (List Nat)), os.toList = pre ++ l → acc.length = pre.length → (∀ (i : Nat) o, os[i]? = some o → (∀ e ∈ o.after.toList, Region.binds .any e = true → S e.on) → ∀ k ∈ acc.getD i [], S k) →
      ∀ (i : Nat) o, os[i]? = some o → (∀ e ∈ o.after.toList, Region.binds .any e = true → S e.on) → ∀ k ∈ (l.foldl (fun acc o => acc ++ [((o.after.toList.filter fun e => Region.binds .any e).flatMap fun e => e.on :: acc.getD e.on []).eraseDups]) acc).getD i [], S k := by
  intro l
  induction l with
  | nil => intro pre acc _ _ h; exact h
  | cons x t ih =>
    intro pre acc he hl h
    refine ih (pre ++ [x]) _ (by simp [he]) (by simp [hl]) ?_
    intro i o ho hd k hk
    by_cases h1 : i < acc.length
    · have : (acc ++ [((x.after.toList.filter fun e => Region.binds .any e).flatMap fun e => e.on :: acc.getD e.on []).eraseDups]).getD i [] = acc.getD i [] := by
        simp [List.getD_eq_getElem?_getD, List.getElem?_append_left h1]
      rw [this] at hk
      exact h i o ho hd k hk
    · by_cases h2 : i = acc.length
      · subst h2
        have hx : o = x := by
          have e1 : os.toList[acc.length]? = some o := by simpa using ho
          rw [he, hl] at e1
          simpa using e1.symm
        subst hx
        simp only [List.getD_eq_getElem?_getD, List.getElem?_append_right (Nat.le_refl _), Nat.sub_self, List.getElem?_cons_zero, Option.getD_some] at hk
        rw [List.mem_eraseDups, List.mem_flatMap] at hk
        obtain ⟨e, he1, he2⟩ := hk
        rw [List.mem_filter] at he1
        have hon := hd e he1.1 he1.2
        rcases List.mem_cons.1 he2 with rfl | he2
        · exact hon
        · cases hoe : os[e.on]? with
          | none =>
            have h3 : os.size ≤ e.on := Array.getElem?_eq_none_iff.1 hoe
            have h4 : acc.length ≤ e.on := by
              have : os.size = (pre ++ o :: t).length := by rw [← he]; simp
              simp at this
              omega
            rw [List.getElem?_eq_none h4] at he2
            simp at he2
          | some o2 => exact h e.on o2 hoe (hS e.on o2 hoe hon) k (by simpa [List.getD_eq_getElem?_getD] using he2)
      · rw [List.getD_eq_getElem?_getD, List.getElem?_eq_none (by simp; omega)] at hk
        simp at hk
theorem closure_closed {os : Array Oper} (S : Nat → Prop) (hS : ∀ (i : Nat) o, os[i]? = some o → S i → ∀ e ∈ o.after.toList, Region.binds .any e = true → S e.on) {i : Nat} {o : Oper} (ho : os[i]? = some o) (hd : ∀ e ∈ o.after.toList, Region.binds .any e = true → S e.on) :
    ∀ k ∈ (closure os).getD i [], S k :=
  closure_aux S hS os.toList [] [] rfl rfl (fun i o _ _ k hk => by simp at hk) i o ho hd

/-- What a region is read as. -/
structure Reg (cx : Cx) (C : Code?) (O : Orc) (N : Nat) (os : Array Oper) (ops : List (IOper × List Nat × QK)) (es : Nat → Env) (ms : Nat → Mem) (vs : Nat → Value) (live : Nat → Prop) : Prop where
  hO : OS cx C O
  hK : KPO O
  len : ops.length = os.size
  fit : ∀ (j : Nat) o, os[j]? = some o → ∃ io q, ops[j]? = some (io, tmpsOf os o, q) ∧ compO cx.P N os o = some io ∧ (q = .pure → isPO io.op = true)
  far : ∀ (i j : Nat) x y, ops[i]? = some x → ops[j]? = some y → isLone x.2.2 = true → y.2.2 ≠ .pure → i ≠ j → j ∈ (closure os).getD i [] ∨ i ∈ (closure os).getD j [] ∨ (j < i ∧ y.2.2 = .peek ∧ x.1.guard = [])
  peek : ∀ (j : Nat) x, ops[j]? = some x → x.2.2 = .peek → x.1.guard = [] ∧ isRd x.1.op = true ∧ (∃ t, x.1.dst = some t) ∧ ∀ t ∈ x.2.1, ∀ (k : Nat) y, ops[k]? = some y → y.1.dst = some t → k ∈ (closure os).getD j []
  seen : ∀ (i j : Nat) x y pan l, ops[i]? = some x → ops[j]? = some y → x.2.2 = .lone pan l → y.2.2 = .peek → j < i → j ∈ (closure os).getD i [] ∨ (y.1, y.2.1) ∈ l
  ok : drawOk os = true
  steps : ∀ j x, live j → ops[j]? = some x → StepQ O (ms 0).next x (es j) (ms j) (vs j) (es (j + 1)) (ms (j + 1))
  dead : ∀ j, ¬ live j → es (j + 1) = es j ∧ ms (j + 1) = ms j
theorem compL_spec {P : Program} {N : Nat} {os : Array Oper} : ∀ {l : List Oper} {ops : List IOper}, compL P N os l = some ops → ops.length = l.length ∧ ∀ (j : Nat) o, l[j]? = some o → ∃ io, ops[j]? = some io ∧ compO P N os o = some io := by
  intro l
  induction l with
  | nil => intro ops h; cases h; exact ⟨rfl, fun j o h => by simp at h⟩
  | cons o t ih =>
    intro ops h
    unfold compL at h
    split at h
    · rename_i x l' h1 h2
      cases h
      obtain ⟨i1, i2⟩ := ih h2
      refine ⟨by simp [i1], fun j o' hj => ?_⟩
      cases j with
      | zero => simp at hj; subst hj; exact ⟨x, rfl, h1⟩
      | succ j => exact i2 j o' (by simpa using hj)
    · cases h
theorem kindOf_pure {Q : FuncId → Bool} {ops : List (IOper × List Nat)} {cl : List (List Nat)} {j : Nat} {x : IOper} : kindOf Q ops cl j x = .pure ↔ isPO x.op = true := by
  unfold kindOf
  split
  · simp [*]
  · split
    · simp [*]
    · split <;> simp [*]
theorem kindOf_peek {Q : FuncId → Bool} {ops : List (IOper × List Nat)} {cl : List (List Nat)} {j : Nat} {x : IOper} (h : kindOf Q ops cl j x = .peek) : isPk Q ops cl j x = true := by
  unfold kindOf at h
  split at h
  · cases h
  · split at h
    · assumption
    · split at h <;> cases h
theorem isPk_peek {Q : FuncId → Bool} {ops : List (IOper × List Nat)} {cl : List (List Nat)} {j : Nat} {x : IOper} (h : isPk Q ops cl j x = true) : kindOf Q ops cl j x = .peek := by
  unfold kindOf
  have h1 : isPO x.op = false := by
    unfold isPk at h
    simp only [Bool.and_eq_true] at h
    obtain ⟨n, g, a, e⟩ := isRd_mem h.1.1.1.2
    rw [e]; rfl
  simp [h1, h]
theorem kindOf_lone {Q : FuncId → Bool} {ops : List (IOper × List Nat)} {cl : List (List Nat)} {j : Nat} {x : IOper} {pan : Bool} {l : List (IOper × List Nat)} (h : kindOf Q ops cl j x = .lone pan l) :
    isW Q x.op = true ∧ (∀ (i : Nat) y, ops[i]? = some y → isPO y.1.op = false → i ≠ j → i ∈ cl.getD j [] ∨ j ∈ cl.getD i [] ∨ (i < j ∧ kindOf Q ops cl i y.1 = .peek ∧ x.guard = [])) ∧
    (pan = true → ∀ (i : Nat) y, ops[i]? = some y → j < i → j ∈ cl.getD i [] ∨ (isMv y.1.op = true ∧ y.1.guard = [])) ∧
    (∀ (i : Nat) y, ops[i]? = some y → i < j → kindOf Q ops cl i y.1 = .peek → i ∈ cl.getD j [] ∨ y ∈ l) := by
  unfold kindOf at h
  split at h
  · cases h
  · split at h
    · cases h
    · split at h
      · rename_i hh
        cases h
        simp only [Bool.and_eq_true, List.all_eq_true] at hh
        refine ⟨hh.1, fun i y hy hp hne => ?_, fun hpan i y hy hlt => ?_, fun i y hy hlt hk => ?_⟩
        · have := hh.2 (y, i) (by rw [List.mem_zipIdx_iff_getElem?]; simpa using hy)
          simp only [hp, Bool.or_eq_true, beq_iff_eq, List.contains_iff_mem, Bool.and_eq_true, decide_eq_true_eq, List.isEmpty_iff] at this
          rcases this with (((h | h) | h) | h) | h
          · cases h
          · exact absurd h hne
          · exact .inl h
          · exact .inr (.inl h)
          · exact .inr (.inr ⟨h.1.2, isPk_peek h.2, h.1.1⟩)
        · simp only [List.all_eq_true] at hpan
          have := hpan (y, i) (by rw [List.mem_zipIdx_iff_getElem?]; simpa using hy)
          simp only [Bool.or_eq_true, decide_eq_true_eq, List.contains_iff_mem, Bool.and_eq_true, List.isEmpty_iff] at this
          rcases this with (h | h) | h
          · omega
          · exact .inl h
          · exact .inr h
        · by_cases hc : i ∈ cl.getD j []
          · exact .inl hc
          · refine .inr (List.mem_map.2 ⟨(y, i), List.mem_filter.2 ⟨by rw [List.mem_zipIdx_iff_getElem?]; simpa using hy, ?_⟩, rfl⟩)
            have h1 : (cl.getD j []).contains i = false := by
              cases hq : (cl.getD j []).contains i with
              | false => rfl
              | true => exact absurd (List.contains_iff_mem.1 hq) hc
            simp only [decide_eq_true hlt, kindOf_peek hk, h1, Bool.and_self, Bool.not_false]
      · cases h
theorem compD_spec {P : Program} {N : Nat} {os : Array Oper} {ops : List (IOper × List Nat × QK)} (h : compD P N os = some ops) : ops.length = os.size ∧
    (∀ (j : Nat) o, os[j]? = some o → ∃ io q, ops[j]? = some (io, tmpsOf os o, q) ∧ compO P N os o = some io ∧ (q = .pure → isPO io.op = true)) ∧
    (∀ (i j : Nat) x y, ops[i]? = some x → ops[j]? = some y → isLone x.2.2 = true → y.2.2 ≠ .pure → i ≠ j → j ∈ (closure os).getD i [] ∨ i ∈ (closure os).getD j [] ∨ (j < i ∧ y.2.2 = .peek ∧ x.1.guard = [])) ∧
    (∀ (j : Nat) x, ops[j]? = some x → x.2.2 = .peek → x.1.guard = [] ∧ isRd x.1.op = true ∧ (∃ t, x.1.dst = some t) ∧ ∀ t ∈ x.2.1, ∀ (k : Nat) y, ops[k]? = some y → y.1.dst = some t → k ∈ (closure os).getD j []) ∧
    (∀ (i j : Nat) x y pan l, ops[i]? = some x → ops[j]? = some y → x.2.2 = .lone pan l → y.2.2 = .peek → j < i → j ∈ (closure os).getD i [] ∨ (y.1, y.2.1) ∈ l) ∧
    (∀ (i j : Nat) x y l, ops[i]? = some x → ops[j]? = some y → x.2.2 = .lone true l → i < j → i ∈ (closure os).getD j [] ∨ (isMv y.1.op = true ∧ y.1.guard = [])) := by
  unfold compD at h
  cases hc : compL P N os os.toList with
  | none => rw [hc] at h; cases h
  | some l0 =>
    rw [hc] at h
    simp only [Option.map_some, Option.some.injEq] at h
    obtain ⟨l1, l2⟩ := compL_spec hc
    generalize hL : l0.zip (os.toList.map (tmpsOf os)) = L at h
    have hLg : ∀ (j : Nat) o io, os[j]? = some o → l0[j]? = some io → L[j]? = some (io, tmpsOf os o) := by
      intro j o io ho hi
      rw [← hL, List.getElem?_zip_eq_some]
      refine ⟨hi, ?_⟩
      rw [List.getElem?_map]
      have : os.toList[j]? = some o := by simpa using ho
      rw [this]; rfl
    have hget : ∀ (j : Nat), ops[j]? = (L[j]?).map fun p => (p.1, p.2, kindOf (quietF P) L (closure os) j p.1) := by
      intro j
      rw [← h, List.getElem?_map, List.getElem?_zipIdx]
      cases L[j]? <;> simp
    have hlen : ops.length = os.size := by
      rw [← h, ← hL]
      simp only [Array.length_toList] at l1
      simp [l1]
    have hx : ∀ (i : Nat) x, ops[i]? = some x → L[i]? = some (x.1, x.2.1) ∧ x.2.2 = kindOf (quietF P) L (closure os) i x.1 := by
      intro i x hi
      rw [hget i] at hi
      cases hq : L[i]? with
      | none => rw [hq] at hi; cases hi
      | some p => rw [hq] at hi; cases hi; exact ⟨rfl, rfl⟩
    refine ⟨hlen, fun j o ho => ?_, fun i j x y hi hj h1 h2 hne => ?_, fun j x hj hk => ?_, fun i j x y pan l hi hj h1 h2 hlt => ?_, fun i j x y l hi hj h1 hlt => ?_⟩
    · obtain ⟨io, h1, h2⟩ := l2 j o (by simpa using ho)
      exact ⟨io, _, by rw [hget j, hLg j o io ho h1]; rfl, h2, fun h => kindOf_pure.1 h⟩
    · obtain ⟨a1, a2⟩ := hx i x hi
      obtain ⟨b1, b2⟩ := hx j y hj
      cases hk : x.2.2 with
      | lone pan l =>
        rw [a2] at hk
        have hp : isPO y.1.op = false := by
          cases hp : isPO y.1.op with
          | false => rfl
          | true => rw [b2] at h2; exact absurd (kindOf_pure.2 hp) h2
        rcases (kindOf_lone hk).2.1 j _ b1 hp (Ne.symm hne) with h | h | ⟨h, h', h''⟩
        · exact .inl h
        · exact .inr (.inl h)
        · exact .inr (.inr ⟨h, by rw [b2]; exact h', h''⟩)
      | _ => rw [hk] at h1; cases h1
    · obtain ⟨a1, a2⟩ := hx j x hj
      rw [a2] at hk
      have hp := kindOf_peek hk
      unfold isPk at hp
      simp only [Bool.and_eq_true, List.isEmpty_iff, List.all_eq_true] at hp
      obtain ⟨⟨⟨⟨p1, p2⟩, p3⟩, p4⟩, p5⟩ := hp
      refine ⟨p1, p2, by cases hd : x.1.dst with | none => rw [hd] at p3; cases p3 | some t => exact ⟨t, rfl⟩, fun t ht k y hy hd => ?_⟩
      have hrs : (L.getD j (x.1, [])).2 = x.2.1 := by rw [List.getD_eq_getElem?_getD, a1]; rfl
      rw [hrs] at p5
      have := p5 t ht (( y.1, y.2.1), k) (by rw [List.mem_zipIdx_iff_getElem?]; simpa using (hx k y hy).1)
      simp only [Bool.or_eq_true, bne_iff_ne, ne_eq, List.contains_iff_mem] at this
      rcases this with h | h
      · exact absurd hd h
      · exact h
    · obtain ⟨a1, a2⟩ := hx i x hi
      obtain ⟨b1, b2⟩ := hx j y hj
      rw [a2] at h1
      rw [b2] at h2
      exact (kindOf_lone h1).2.2.2 j _ b1 hlt h2
    · obtain ⟨a1, a2⟩ := hx i x hi
      obtain ⟨b1, b2⟩ := hx j y hj
      rw [a2] at h1
      exact (kindOf_lone h1).2.2.1 rfl j _ b1 hlt
theorem compD_move {P : Program} {N : Nat} {os : Array Oper} {ops : List (IOper × List Nat × QK)} (h : compD P N os = some ops) {j : Nat} {y : IOper × List Nat × QK} (hy : ops[j]? = some y) {a : Operand} (hop : y.1.op = .plain (.move a)) : y.2.2 = .pure := by
  unfold compD at h
  cases hc : compL P N os os.toList with
  | none => rw [hc] at h; cases h
  | some l0 =>
    rw [hc] at h
    simp only [Option.map_some, Option.some.injEq] at h
    rw [← h, List.getElem?_map] at hy
    obtain ⟨p, hp, rfl⟩ := Option.map_eq_some_iff.1 hy
    simp only at hop ⊢
    exact kindOf_pure.2 (by rw [hop]; rfl)
theorem Reg.edgeC {os : Array Oper} (hok : drawOk os = true) {j : Nat} {o : Oper} (ho : os[j]? = some o) {e : Edge} (he : e ∈ o.after.toList) (hb : Region.binds .any e = true) : e.on < j := by
  unfold drawOk at hok
  simp only [Bool.and_eq_true, List.all_eq_true] at hok
  have hz : (o, j) ∈ os.toList.zipIdx := by
    rw [List.mem_zipIdx_iff_getElem?]
    simpa using ho
  have := (hok.2 _ hz).1
  simp only [Array.all_eq_true] at this
  simp only [Array.mem_toList_iff] at he
  obtain ⟨q, hq, rfl⟩ := Array.mem_iff_getElem.1 he
  have := this q hq
  rw [hb] at this
  simpa using this
theorem Reg.belowC {os : Array Oper} (hok : drawOk os = true) {i : Nat} {o : Oper} (ho : os[i]? = some o) : ∀ k ∈ (closure os).getD i [], k < i :=
  closure_closed (fun k => k < i) (fun j p hp hj e he hb => Nat.lt_trans (Reg.edgeC hok hp he hb) hj) ho (fun e he hb => Reg.edgeC hok ho he hb)
section
variable {cx : Cx} {C : Code?} {O : Orc} {N : Nat} {os : Array Oper} {ops : List (IOper × List Nat × QK)} {es : Nat → Env} {ms : Nat → Mem} {vs : Nat → Value} {live : Nat → Prop}

theorem Reg.op (R : Reg cx C O N os ops es ms vs live) {j : Nat} (hj : j < os.size) : ∃ o io q, os[j]? = some o ∧ ops[j]? = some (io, tmpsOf os o, q) ∧ compO cx.P N os o = some io ∧ (q = .pure → isPO io.op = true) := by
  obtain ⟨io, q, a, b, c⟩ := R.fit j os[j] (Array.getElem?_eq_getElem hj)
  exact ⟨_, io, q, Array.getElem?_eq_getElem hj, a, b, c⟩
theorem Reg.next (R : Reg cx C O N os ops es ms vs live) {i j : Nat} (h : i ≤ j) (hj : j ≤ os.size) : (ms j).lo = (ms i).lo ∧ (ms i).next ≤ (ms j).next ∧ ∀ o, o < (ms i).next → (ms i).get o = none → (ms j).get o = none := by
  induction j with
  | zero =>
    obtain rfl : i = 0 := by omega
    exact ⟨rfl, Nat.le_refl _, fun _ _ h => h⟩
  | succ j ih =>
    by_cases e : i = j + 1
    · subst e; exact ⟨rfl, Nat.le_refl _, fun _ _ h => h⟩
    · obtain ⟨a1, a2, a3⟩ := ih (by omega) (by omega)
      obtain ⟨o, io, q, h1, h2, h3⟩ := R.op (j := j) (by omega)
      have hkp : KP (ms j) (ms (j + 1)) := by
        by_cases hv : live j
        · exact (R.steps j _ hv h2).kp R.hK
        · rw [(R.dead j hv).2]; exact .refl _
      exact ⟨hkp.lo.trans a1, Nat.le_trans a2 hkp.next, fun o ho hd => hkp.dead o (by omega) (a3 o ho hd)⟩
theorem Reg.same (R : Reg cx C O N os ops es ms vs live) {i j : Nat} (h : i ≤ j) (hj : j ≤ os.size) (hl : ∀ (k : Nat) x, i ≤ k → k < j → ops[k]? = some x → isLone x.2.2 = false) : ∀ o, o < (ms i).next → (ms j).get o = (ms i).get o := by
  induction j with
  | zero =>
    obtain rfl : i = 0 := by omega
    exact fun _ _ => rfl
  | succ j ih =>
    by_cases e : i = j + 1
    · subst e; exact fun _ _ => rfl
    · have a3 := ih (by omega) (by omega) (fun k x h1 h2 => hl k x h1 (by omega))
      obtain ⟨o, io, q, h1, h2, h3, h4⟩ := R.op (j := j) (by omega)
      have b3 : ∀ o, o < (ms j).next → (ms (j + 1)).get o = (ms j).get o := by
        by_cases hv : live j
        · exact (R.steps j _ hv h2).mem R.hK h4 (fun e => (R.peek j _ h2 e).2.1) (hl j _ (by omega) (by omega) h2)
        · rw [(R.dead j hv).2]; exact fun _ _ => rfl
      have := (R.next (i := i) (j := j) (by omega) (by omega)).2.1
      exact fun o ho => (b3 o (by omega)).trans (a3 o ho)
theorem Reg.ro (R : Reg cx C O N os ops es ms vs live) {j : Nat} (hj : j ≤ os.size) : (ms j).ro = (ms 0).ro := by
  induction j with
  | zero => rfl
  | succ j ih =>
    obtain ⟨o, io, q, h1, h2, h3⟩ := R.op (j := j) (by omega)
    by_cases hv : live j
    · exact ((R.steps j _ hv h2).kp R.hK).ro.trans (ih (by omega))
    · rw [(R.dead j hv).2]; exact ih (by omega)
/-- What touches no memory leaves it. -/
theorem Reg.pure (R : Reg cx C O N os ops es ms vs live) {j : Nat} {x : IOper × List Nat × QK} (hjl : live j) (hx : ops[j]? = some x) (hp : x.2.2 = .pure) (hpo : isPO x.1.op = true) : ms (j + 1) = ms j := by
  rcases (R.steps j x hjl hx).ok with ⟨_, hq⟩ | ⟨_, _, h⟩
  · rw [hp] at hq
    simp only [qRun] at hq
    cases hop : x.1.op with
    | plain p =>
      rw [hop] at hpo hq
      simp only [qOp1] at hq
      exact (isP_mem (p := p) hpo hq).1
    | _ => rw [hop] at hpo; simp [isPO] at hpo
  · exact h
/-- What only reads leaves it. -/
theorem Reg.reader (R : Reg cx C O N os ops es ms vs live) {j : Nat} {x : IOper × List Nat × QK} (hjl : live j) (hx : ops[j]? = some x) (hp : x.2.2 = .peek) : ms (j + 1) = ms j ∧ ∃ n g a o i, x.1.op = .plain (.load n g a) ∧ aev (mask x.2.1 (es j)) a = .pointer (some ⟨o, i, none⟩) ∧ ∀ m2 : Mem, m2.get o = (ms j).get o → aop (.load n g a) (aev (mask x.2.1 (es j))) m2 = some (vs j, m2) := by
  obtain ⟨p1, p2, p3, p4⟩ := R.peek j x hx hp
  obtain ⟨n, g, a, hop⟩ := isRd_mem p2
  rcases (R.steps j x hjl hx).ok with ⟨_, hq⟩ | ⟨h, _⟩
  · rw [hp] at hq
    simp only [qRun, qOp1, hop] at hq
    obtain ⟨h1, o, i, h2, h3⟩ := load_mem hq
    exact ⟨h1, n, g, a, o, i, hop, h2, h3⟩
  · rw [p1] at h; cases h
/-- Two operations do not write one temporary. -/
theorem Reg.apart (R : Reg cx C O N os ops es ms vs live) {i j t : Nat} {x y : IOper × List Nat × QK} (hx : ops[i]? = some x) (hy : ops[j]? = some y) (dx : x.1.dst = some t) (dy : y.1.dst = some t) : i = j := by
  have hi : i < os.size := by rw [← R.len]; exact (List.getElem?_eq_some_iff.1 hx).1
  have hj : j < os.size := by rw [← R.len]; exact (List.getElem?_eq_some_iff.1 hy).1
  obtain ⟨o1, io1, q1, a1, a2, a3, _⟩ := R.op hi
  obtain ⟨o2, io2, q2, b1, b2, b3, _⟩ := R.op hj
  rw [hx] at a2; cases a2
  rw [hy] at b2; cases b2
  have e1 := (compO_spec a3).2.2.1
  have e2 := (compO_spec b3).2.2.1
  simp only at dx dy
  rw [dx] at e1; rw [dy] at e2
  have hok := R.ok
  unfold drawOk at hok
  simp only [Bool.and_eq_true, decide_eq_true_eq] at hok
  have hnd := hok.1
  -- the same temporary at two places of a list without repeats
  have key : ∀ (l : List Oper) (i j : Nat) (p q : Oper), (l.filterMap (·.dst)).Nodup → l[i]? = some p → l[j]? = some q → p.dst = some t → q.dst = some t → i = j := by
    intro l
    induction l with
    | nil => intro i j p q _ h; simp at h
    | cons x r ih =>
      intro i j p q hn h1 h2 d1 d2
      have hr : (r.filterMap (·.dst)).Nodup := by
        cases hxd : x.dst with
        | none => simpa [List.filterMap_cons, hxd] using hn
        | some u => simp [List.filterMap_cons, hxd] at hn; exact hn.2
      have hmem : ∀ (k : Nat) (p : Oper), r[k]? = some p → p.dst = some t → t ∈ r.filterMap (·.dst) := fun k p hk hd => List.mem_filterMap.2 ⟨p, List.mem_of_getElem? hk, hd⟩
      cases i with
      | zero =>
        cases j with
        | zero => rfl
        | succ j =>
          simp at h1 h2; subst h1
          have := hmem j q h2 d2
          simp [List.filterMap_cons, d1] at hn
          exact absurd (List.mem_filterMap.1 this) (by rintro ⟨a, ha, hb⟩; exact hn.1 a ha hb)
      | succ i =>
        cases j with
        | zero =>
          simp at h1 h2; subst h2
          have := hmem i p h1 d1
          simp [List.filterMap_cons, d2] at hn
          exact absurd (List.mem_filterMap.1 this) (by rintro ⟨a, ha, hb⟩; exact hn.1 a ha hb)
        | succ j =>
          simp at h1 h2
          rw [ih i j p q hr h1 h2 d1 d2]
  exact key os.toList i j o1 o2 hnd (by simpa using a1) (by simpa using b1) e1.symm e2.symm
/-- What an operation reads was written by one that must be done ahead, or is by one that must be done behind. -/
theorem Reg.reads (R : Reg cx C O N os ops es ms vs live) {i j t : Nat} {o : Oper} {x : IOper × List Nat × QK} (ho : os[j]? = some o) (ht : t ∈ tmpsOf os o) (hx : ops[i]? = some x) (dx : x.1.dst = some t) :
    i ∈ (closure os).getD j [] ∨ j ∈ (closure os).getD i [] ∨ j = i := by
  have hi : i < os.size := by rw [← R.len]; exact (List.getElem?_eq_some_iff.1 hx).1
  obtain ⟨o1, io1, q1, a1, a2, a3, _⟩ := R.op hi
  rw [hx] at a2; cases a2
  have e1 := (compO_spec a3).2.2.1
  simp only at dx
  rw [dx] at e1
  have hok := R.ok
  unfold drawOk at hok
  simp only [Bool.and_eq_true, List.all_eq_true] at hok
  have hz : ∀ (k : Nat) (p : Oper), os[k]? = some p → (p, k) ∈ os.toList.zipIdx := fun k p hk => by
    rw [List.mem_zipIdx_iff_getElem?]
    simpa using hk
  have := (hok.2 _ (hz j o ho)).2 t ht _ (hz i o1 a1)
  simp only [Bool.or_eq_true, bne_iff_ne, ne_eq, List.contains_iff_mem, beq_iff_eq] at this
  rcases this with ((h | h) | h) | h
  · exact absurd e1.symm h
  · exact .inl h
  · exact .inr (.inl h)
  · exact .inr (.inr h)
theorem Reg.edge (R : Reg cx C O N os ops es ms vs live) {j : Nat} {o : Oper} (ho : os[j]? = some o) {e : Edge} (he : e ∈ o.after.toList) (hb : Region.binds .any e = true) : e.on < j := by
  have hok := R.ok
  unfold drawOk at hok
  simp only [Bool.and_eq_true, List.all_eq_true] at hok
  have hz : (o, j) ∈ os.toList.zipIdx := by
    rw [List.mem_zipIdx_iff_getElem?]
    simpa using ho
  have := (hok.2 _ hz).1
  simp only [Array.all_eq_true] at this
  simp only [Array.mem_toList_iff] at he
  obtain ⟨q, hq, rfl⟩ := Array.mem_iff_getElem.1 he
  have := this q hq
  rw [hb] at this
  simpa using this
/-- What a temporary holds in the text's order. -/
theorem Reg.held (R : Reg cx C O N os ops es ms vs live) {i j t : Nat} {x : IOper × List Nat × QK} (hx : ops[i]? = some x) (dx : x.1.dst = some t) (hli : live i) (h : i < j) (hj : j ≤ os.size) : es j t = vs i := by
  induction j with
  | zero => omega
  | succ j ih =>
    obtain ⟨o, io, q, h1, h2, h3, _⟩ := R.op (j := j) (by omega)
    by_cases hv : live j
    · have hs := R.steps j _ hv h2
      rw [hs.env]
      by_cases e : i = j
      · subst e
        rw [hx] at h2; cases h2
        simp only at dx
        simp only [D.put, dx, if_true]
      · have : io.dst ≠ some t := fun hd => e (R.apart hx h2 dx hd)
        cases hd : io.dst with
        | none => simp only [D.put, hd]; exact ih (by omega) (by omega)
        | some u =>
          have : t ≠ u := fun e => this (by rw [hd, e])
          simp only [D.put, hd]
          rw [if_neg this]; exact ih (by omega) (by omega)
    · rw [(R.dead j hv).1]
      exact ih (by have : i ≠ j := fun e => hv (e ▸ hli); omega) (by omega)
theorem Reg.stays (R : Reg cx C O N os ops es ms vs live) {j t : Nat} (hn : ∀ (i : Nat) x, ops[i]? = some x → x.1.dst ≠ some t) (hj : j ≤ os.size) : es j t = es 0 t := by
  induction j with
  | zero => rfl
  | succ j ih =>
    obtain ⟨o, io, q, h1, h2, h3, _⟩ := R.op (j := j) (by omega)
    by_cases hv : live j
    · have hs := R.steps j _ hv h2
      rw [hs.env]
      have := hn j _ h2
      cases hd : io.dst with
      | none => simp only [D.put, hd]; exact ih (by omega)
      | some u =>
        have : t ≠ u := fun e => this (by rw [hd, e])
        simp only [D.put, hd]
        rw [if_neg this]; exact ih (by omega)
    · rw [(R.dead j hv).1]; exact ih (by omega)

/-- What a temporary holds ahead of the one that writes it. -/
theorem Reg.ahead (R : Reg cx C O N os ops es ms vs live) {i j t : Nat} {x : IOper × List Nat × QK} (hx : ops[i]? = some x) (dx : x.1.dst = some t) (hj : j ≤ i) : es j t = es 0 t := by
  have hi : i < os.size := by rw [← R.len]; exact (List.getElem?_eq_some_iff.1 hx).1
  induction j with
  | zero => rfl
  | succ j ih =>
    obtain ⟨o, io, q, h1, h2, h3, _⟩ := R.op (j := j) (by omega)
    by_cases hv : live j
    · have hs := R.steps j _ hv h2
      rw [hs.env]
      have : io.dst ≠ some t := fun hd => by have := R.apart hx h2 dx hd; omega
      cases hd : io.dst with
      | none => simp only [D.put, hd]; exact ih (by omega)
      | some u =>
        have : t ≠ u := fun e => this (by rw [hd, e])
        simp only [D.put, hd]
        rw [if_neg this]; exact ih (by omega)
    · rw [(R.dead j hv).1]; exact ih (by omega)

/-- The stage that the memory is at. -/
def Cur (ops : List (IOper × List Nat × QK)) (listed : Array Bool) (j : Nat) : Prop := ∀ (k : Nat) x, ops[k]? = some x → isLone x.2.2 = true → (listed[k]? = some true ↔ k < j)
/-- Where some of the operations are done. -/
structure Inv (os : Array Oper) (ops : List (IOper × List Nat × QK)) (cx : Cx) (N : Nat) (es : Nat → Env) (ms : Nat → Mem) (vs : Nat → Value) (live : Nat → Prop) (ι0 : Inj) (d0 : List Deferred) (w0 : World) (listed : Array Bool) (U : Inj) (a : Act) (w : World) : Prop where
  size : listed.size = os.size
  asz : a.tmps.size = N
  dfr : a.defers = d0
  dom : ∀ o g, U o = some g → o < (ms 0).next ∨ ∃ i, listed[i]? = some true ∧ (ms i).next ≤ o ∧ o < (ms (i + 1)).next
  base : ∀ o, o < (ms 0).next → U o = ι0 o
  below : Below cx.B cx.w0 w
  hbase : cx.B ≤ w.heap.size
  lt : ∀ o g, U o = some g → g.b < w.heap.size
  rel : ∀ j, j ≤ os.size → Cur ops listed j → Rel cx (cutI U (ms j).next) (ms j) w
  lst : ∀ i, listed[i]? = some true → live i
  tm0 : ∀ t, (∀ (i : Nat) x, ops[i]? = some x → x.1.dst = some t → listed[i]? ≠ some true) → VRel ι0 (es 0 t) (a.tmps.getD t undef)
  tmi : ∀ (i : Nat) x t, ops[i]? = some x → x.1.dst = some t → listed[i]? = some true → VRel (cutI U (ms (i + 1)).next) (vs i) (a.tmps.getD t undef)
  new : ∀ o g, U o = some g → ι0 o = none → w0.heap.size ≤ g.b ∨ ∃ o2 g2, ι0 o2 = some g2 ∧ g.b = g2.b ∧ (ms 0).lo ≤ o2 ∧ (ms 0).get o2 ≠ none
  osz : w0.heap.size ≤ w.heap.size
  old : ∀ b, b < w0.heap.size → (∀ o g, ι0 o = some g → (ms 0).lo ≤ o → (ms 0).get o ≠ none → g.b ≠ b) → Same (w0.heap[b]?) (w.heap[b]?)
  closed : ∀ (i : Nat) o, os[i]? = some o → listed[i]? = some true → ∀ e ∈ o.after.toList, Region.binds .any e = true → listed.getD e.on false = true

theorem ready_spec {listed : Array Bool} {i : Nat} (h : i ∈ Region.ready .any os listed) : ∃ o, os[i]? = some o ∧ listed.getD i true = false ∧ ∀ e ∈ o.after.toList, Region.binds .any e = true → listed.getD e.on false = true := by
  unfold Region.ready at h
  rw [List.mem_filter] at h
  obtain ⟨h1, h2⟩ := h
  simp only [Bool.and_eq_true, Bool.not_eq_true'] at h2
  cases ho : os[i]? with
  | none => rw [ho] at h2; simp at h2
  | some o =>
    rw [ho] at h2
    refine ⟨o, rfl, h2.1, fun e he hb => ?_⟩
    have := h2.2
    simp only [Option.map_some, Option.getD_some, Array.all_eq_true] at this
    simp only [Array.mem_toList_iff] at he
    obtain ⟨q, hq, rfl⟩ := Array.mem_iff_getElem.1 he
    have := this q hq
    rw [hb] at this
    simpa using this
theorem listed_of_getD {listed : Array Bool} {i : Nat} (h : listed.getD i false = true) : listed[i]? = some true := by
  rw [Array.getD_eq_getD_getElem?] at h
  cases hq : listed[i]? with
  | none => rw [hq] at h; simp at h
  | some b => rw [hq] at h; simp at h; rw [h]
theorem Reg.below (R : Reg cx C O N os ops es ms vs live) {i : Nat} {o : Oper} (ho : os[i]? = some o) : ∀ k ∈ (closure os).getD i [], k < i :=
  closure_closed (fun k => k < i) (fun j p hp hj e he hb => Nat.lt_trans (R.edge hp he hb) hj) ho (fun e he hb => R.edge ho he hb)
theorem Inv.got {ι0 : Inj} {d0 : List Deferred} {w0 w : World} {listed : Array Bool} {U : Inj} {a : Act} (I : Inv os ops cx N es ms vs live ι0 d0 w0 listed U a w) {i : Nat} {o : Oper} (ho : os[i]? = some o)
    (hr : ∀ e ∈ o.after.toList, Region.binds .any e = true → listed.getD e.on false = true) : ∀ k ∈ (closure os).getD i [], listed[k]? = some true :=
  closure_closed (fun k => listed[k]? = some true) (fun j p hp hj e he hb => listed_of_getD (I.closed j p hp hj e he hb)) ho (fun e he hb => listed_of_getD (hr e he hb))
theorem Inv.env {ι0 : Inj} {d0 : List Deferred} {w0 w : World} {listed : Array Bool} {U : Inj} {a : Act} (R : Reg cx C O N os ops es ms vs live) (I : Inv os ops cx N es ms vs live ι0 d0 w0 listed U a w) (ht : ∀ o g, ι0 o = some g → o < (ms 0).next) {i : Nat} {o : Oper} (ho : os[i]? = some o) (hnl : listed.getD i true = false)
    (hr : ∀ e ∈ o.after.toList, Region.binds .any e = true → listed.getD e.on false = true) : ERel (cutI U (ms i).next) N (mask (tmpsOf os o) (es i)) a.tmps := by
  have hi : i < os.size := (Array.getElem?_eq_some_iff.1 ho).1
  refine ⟨I.asz, fun t => ?_⟩
  unfold mask
  split
  · rename_i hm
    have hm : t ∈ tmpsOf os o := by simpa using hm
    by_cases hw : ∃ (k : Nat) (x : IOper × List Nat × QK), ops[k]? = some x ∧ x.1.dst = some t
    · obtain ⟨k, x, hx, dx⟩ := hw
      have hz : i ≤ k → listed[k]? ≠ some true → VRel (cutI U (ms i).next) (es i t) (a.tmps.getD t undef) := by
        intro hik hnk
        rw [R.ahead hx dx hik]
        refine (I.tm0 t (fun k' x' hx' dx' => by obtain rfl := R.apart hx hx' dx dx'; exact hnk)).mono (fun q g hq => ?_)
        have h0 := ht q g hq
        have := (R.next (Nat.zero_le i) (by omega)).2.1
        unfold cutI
        rw [if_pos (by omega), I.base q h0, hq]
      have hni : listed[i]? ≠ some true := by
        intro h
        rw [Array.getD_eq_getD_getElem?, h] at hnl
        simp at hnl
      have hk : k < os.size := by rw [← R.len]; exact (List.getElem?_eq_some_iff.1 hx).1
      rcases R.reads ho hm hx dx with h | h | rfl
      · have hl := I.got ho hr k h
        have hlt := R.below ho k h
        rw [R.held hx dx (I.lst k hl) hlt (by omega)]
        exact (I.tmi k x t hx dx hl).mono (cutI_le (R.next (by omega) (by omega)).2.1)
      · have hok := Array.getElem?_eq_getElem hk
        have hlt := R.below hok i h
        refine hz (by omega) (fun hkl => hni (I.got hok (I.closed k _ hok hkl) i h))
      · exact hz (Nat.le_refl _) hni
    · have hn : ∀ (k : Nat) (x : IOper × List Nat × QK), ops[k]? = some x → x.1.dst ≠ some t := fun k x hx hd => hw ⟨k, x, hx, hd⟩
      rw [R.stays hn (by omega)]
      refine (I.tm0 t (fun k x hx hd => absurd hd (hn k x hx))).mono (fun q g hq => ?_)
      have h0 := ht q g hq
      have := (R.next (Nat.zero_le i) (by omega)).2.1
      unfold cutI
      rw [if_pos (by omega), I.base q h0, hq]
  · exact .unk _
theorem tmps_put {a : Act} {dst : Option Nat} {v : Value} {t : Nat} (h : dst ≠ some t) : (a.put dst v).tmps.getD t undef = a.tmps.getD t undef := by
  cases dst with
  | none => rfl
  | some d =>
    have : d ≠ t := fun e => h (by rw [e])
    simp only [Act.put]
    rw [Array.getD_eq_getD_getElem?, Array.getElem?_setIfInBounds_ne this, ← Array.getD_eq_getD_getElem?]
theorem tmps_put_self {a : Act} {v : Value} {t : Nat} (h : t < a.tmps.size) : (a.put (some t) v).tmps.getD t undef = v := by
  simp only [Act.put]
  rw [Array.getD_eq_getD_getElem?, Array.getElem?_setIfInBounds_self_of_lt h]; rfl
theorem listed_set {listed : Array Bool} {i k : Nat} (hi : i < listed.size) : (listed.setIfInBounds i true)[k]? = if k = i then some true else listed[k]? := by
  rw [Array.getElem?_setIfInBounds]
  by_cases h : i = k
  · subst h; simp [hi]
  · rw [if_neg h, if_neg (fun e => h e.symm)]

/-- Where an operation that touches memory may be done, the memory is at its stage. -/
theorem Inv.cur {ι0 : Inj} {d0 : List Deferred} {w0 w : World} {listed : Array Bool} {U : Inj} {a : Act} (R : Reg cx C O N os ops es ms vs live) (I : Inv os ops cx N es ms vs live ι0 d0 w0 listed U a w) {i : Nat} {o : Oper} {xi : IOper × List Nat × QK} (ho : os[i]? = some o) (hxi : ops[i]? = some xi) (hnp : xi.2.2 ≠ .pure) (hnk : xi.2.2 ≠ .peek) (hnot : listed[i]? ≠ some true)
    (hr : ∀ e ∈ o.after.toList, Region.binds .any e = true → listed.getD e.on false = true) : Cur ops listed i := by
  intro k x hx hxl
  by_cases hki : k = i
  · subst hki
    exact ⟨fun h => absurd h hnot, fun h => absurd h (Nat.lt_irrefl _)⟩
  · have hk : k < os.size := by rw [← R.len]; exact (List.getElem?_eq_some_iff.1 hx).1
    have hok := Array.getElem?_eq_getElem hk
    rcases R.far k i x xi hx hxi hxl hnp hki with h | h | ⟨_, h, _⟩
    · have h1 := R.below hok i h
      exact ⟨fun hl => absurd (I.got hok (I.closed k _ hok hl) i h) hnot, fun h => by omega⟩
    · exact ⟨fun _ => R.below ho k h, fun _ => I.got ho hr k h⟩
    · exact absurd h hnk

/-- Where a reading may be done, the memory is at its stage, or behind one that looked at it again. -/
theorem Inv.stage {ι0 : Inj} {d0 : List Deferred} {w0 w : World} {listed : Array Bool} {U : Inj} {a : Act} (R : Reg cx C O N os ops es ms vs live) (I : Inv os ops cx N es ms vs live ι0 d0 w0 listed U a w) {i : Nat} {o : Oper} {xi : IOper × List Nat × QK} (ho : os[i]? = some o) (hxi : ops[i]? = some xi) (hpk : xi.2.2 = .peek) (hnot : listed[i]? ≠ some true)
    (hr : ∀ e ∈ o.after.toList, Region.binds .any e = true → listed.getD e.on false = true) : Cur ops listed i ∨ ∃ (k : Nat) (x : IOper × List Nat × QK), i < k ∧ live k ∧ ops[k]? = some x ∧ isLone x.2.2 = true ∧ listed[k]? = some true ∧ Cur ops listed (k + 1) := by
  have key : ∀ (n : Nat), i + n ≤ os.size → (∀ (k : Nat) x, ops[k]? = some x → isLone x.2.2 = true → i + n ≤ k → listed[k]? ≠ some true) → Cur ops listed i ∨ ∃ (k : Nat) (x : IOper × List Nat × QK), i < k ∧ live k ∧ ops[k]? = some x ∧ isLone x.2.2 = true ∧ listed[k]? = some true ∧ Cur ops listed (k + 1) := by
    intro n
    induction n with
    | zero =>
      intro _ hn
      refine .inl fun k x hx hxl => ⟨fun h => ?_, fun h => ?_⟩
      · apply Nat.lt_of_not_le
        intro hle
        exact hn k x hx hxl (by omega) h
      · rcases R.far k i x xi hx hxi hxl (by rw [hpk]; simp) (by omega) with h1 | h1 | ⟨h1, _⟩
        · have hk : k < os.size := by rw [← R.len]; exact (List.getElem?_eq_some_iff.1 hx).1
          have := R.below (Array.getElem?_eq_getElem hk) i h1
          omega
        · exact I.got ho hr k h1
        · omega
    | succ n ih =>
      intro hle hn
      by_cases hc : ∃ x, ops[i + n]? = some x ∧ isLone x.2.2 = true ∧ listed[i + n]? = some true
      · obtain ⟨x, hx, hxl, hl⟩ := hc
        have hne : i ≠ i + n := fun e => hnot (by rw [e]; exact hl)
        refine .inr ⟨i + n, x, by omega, I.lst _ hl, hx, hxl, hl, fun k y hy hyl => ⟨fun h => ?_, fun h => ?_⟩⟩
        · apply Nat.lt_of_not_le
          intro hle2
          exact hn k y hy hyl (by omega) h
        · by_cases hke : k = i + n
          · subst hke; exact hl
          · have hk : k < os.size := by rw [← R.len]; exact (List.getElem?_eq_some_iff.1 hy).1
            have hin : i + n < os.size := by rw [← R.len]; exact (List.getElem?_eq_some_iff.1 hx).1
            have e1 := Array.getElem?_eq_getElem hin
            rcases R.far k (i + n) y x hy hx hyl (by intro e; rw [e] at hxl; cases hxl) hke with h1 | h1 | ⟨_, h1, _⟩
            · have := R.below (Array.getElem?_eq_getElem hk) (i + n) h1
              omega
            · exact I.got e1 (I.closed _ _ e1 hl) k h1
            · rw [h1] at hxl; cases hxl
      · refine ih (by omega) fun k x hx hxl hle2 h => ?_
        by_cases hke : k = i + n
        · subst hke; exact hc ⟨x, hx, hxl, h⟩
        · exact hn k x hx hxl (by omega) h
  have hios : i < os.size := (Array.getElem?_eq_some_iff.1 ho).1
  obtain ⟨n, hn⟩ : ∃ n, os.size = i + n := ⟨os.size - i, by omega⟩
  refine key n (by omega) fun k x hx hxl hle h => ?_
  have : k < os.size := by rw [← R.len]; exact (List.getElem?_eq_some_iff.1 hx).1
  omega
/-- What was looked at again. -/
theorem Reg.again (R : Reg cx C O N os ops es ms vs live) {i k : Nat} {x y : IOper × List Nat × QK} {n : Nat} {g : Bool} {a : Operand} (hx : ops[i]? = some x) (hp : x.2.2 = .peek) (hop : x.1.op = .plain (.load n g a)) (hy : ops[k]? = some y) (hyl : isLone y.2.2 = true) (hik : i < k) (hkl : live k) (hli : live i) (hlv : ∀ j ∈ (closure os).getD i [], live j) (hnc : i ∉ (closure os).getD k []) :
    aop (.load n g a) (aev (mask x.2.1 (es i))) (ms (k + 1)) = some (vs i, ms (k + 1)) ∧ eqv (ms 0).next (vs i) (vs i) = true := by
  obtain ⟨p1, p2, ⟨t, p3⟩, p4⟩ := R.peek i x hx hp
  have hkne : k ≠ i := by omega
  have hi : i < os.size := by rw [← R.len]; exact (List.getElem?_eq_some_iff.1 hx).1
  have hks : k < os.size := by rw [← R.len]; exact (List.getElem?_eq_some_iff.1 hy).1
  have hguard : y.1.guard = [] := by
    rcases R.far k i y x hy hx hyl (by rw [hp]; simp) hkne with h1 | h1 | ⟨_, _, h1⟩
    · exact absurd h1 hnc
    · have := R.below (Array.getElem?_eq_getElem hi) k h1
      omega
    · exact h1
  cases hq : y.2.2 with
  | lone pan l =>
    have hin : (x.1, x.2.1) ∈ l := by
      rcases R.seen k i y x pan l hy hx hq hp hik with h | h
      · exact absurd h hnc
      · exact h
    have hc := (R.steps k y hkl hy).chk pan l hq (by rw [hguard]; rfl)
    unfold chks at hc
    rw [List.all_eq_true] at hc
    have hc := hc _ hin
    simp only [hop, p3, Option.getD_some] at hc
    have hm : mask x.2.1 (es (k + 1)) = mask x.2.1 (es i) := by
      funext u
      unfold mask
      split
      · rename_i hu
        have hu : u ∈ x.2.1 := by simpa using hu
        by_cases hw : ∃ (j : Nat) (z : IOper × List Nat × QK), ops[j]? = some z ∧ z.1.dst = some u
        · obtain ⟨j, z, hz, dz⟩ := hw
          have hji := R.below (Array.getElem?_eq_getElem hi) j (p4 u hu j z hz dz)
          rw [R.held hz dz (hlv j (p4 u hu j z hz dz)) (by omega) (by omega), R.held hz dz (hlv j (p4 u hu j z hz dz)) hji (by omega)]
        · have hn : ∀ (j : Nat) (z : IOper × List Nat × QK), ops[j]? = some z → z.1.dst ≠ some u := fun j z hz hd => hw ⟨j, z, hz, hd⟩
          rw [R.stays hn (show k + 1 ≤ os.size by omega), R.stays hn (show i ≤ os.size by omega)]
      · rfl
    rw [hm, R.held hx p3 hli (by omega) (by omega)] at hc
    cases hv : aop (.load n g a) (aev (mask x.2.1 (es i))) (ms (k + 1)) with
    | none => rw [hv] at hc; cases hc
    | some r =>
      rw [hv] at hc
      simp only [chk1] at hc
      have he := eqv_eq hc
      have hm2 := (load_mem (m' := r.2) (v := r.1) hv).1
      rw [he] at hc
      exact ⟨by rw [← he, ← hm2], hc⟩
  | _ => rw [hq] at hyl; cases hyl

/-- One more operation is done. -/
theorem Inv.step {ι0 : Inj} {d0 : List Deferred} {w0 w : World} {listed : Array Bool} {U : Inj} {a : Act} (R : Reg cx C O N os ops es ms vs live) (I : Inv os ops cx N es ms vs live ι0 d0 w0 listed U a w) (ht : ∀ o g, ι0 o = some g → o < (ms 0).next) (hw0 : cx.lo ≤ (ms 0).lo ∧ cx.lo ≤ (ms 0).next ∧ (ms 0).ro = cx.lo)
    {i : Nat} (hi : i ∈ Region.ready .any os listed) (hli : live i) {Q : Exit → Act → World → Prop} {K : Act → World → Prop} (hK : ∀ U' a' w', Inv os ops cx N es ms vs live ι0 d0 w0 (listed.setIfInBounds i true) U' a' w' → K a' w') :
    wpOp cx.P os Q i K a w := by
  obtain ⟨o, ho, hnl, hr⟩ := ready_spec hi
  have hlt : i < os.size := (Array.getElem?_eq_some_iff.1 ho).1
  obtain ⟨io, qk, hio, hco, hqp⟩ := R.fit i o ho
  obtain ⟨c1, c2, c3, c4⟩ := compO_spec hco
  have hs := R.steps i _ hli hio
  have hE := I.env R ht ho hnl hr
  have hil : i < listed.size := by rw [I.size]; exact hlt
  have hnot : listed[i]? ≠ some true := by
    intro h
    rw [Array.getD_eq_getD_getElem?, h] at hnl
    simp at hnl
  have hset := fun k => listed_set (listed := listed) (k := k) hil
  -- before, nothing lay there
  have hfree : ∀ q, (ms i).next ≤ q ∧ q < (ms (i + 1)).next → U q = none := by
    intro q hq
    cases hu : U q with
    | none => rfl
    | some g =>
      exfalso
      rcases I.dom q g hu with h0 | ⟨k, hk, k1, k2⟩
      · have := (R.next (Nat.zero_le i) (by omega)).2.1; omega
      · have hks : k < os.size := by
          rw [← I.size]
          exact (Array.getElem?_eq_some_iff.1 hk).1
        rcases Nat.lt_trichotomy k i with h | h | h
        · have := (R.next (i := k + 1) (j := i) (by omega) (by omega)).2.1; omega
        · subst h; exact hnot hk
        · have := (R.next (i := i + 1) (j := k) (by omega) (by omega)).2.1; omega
  have hls : ∀ k, (listed.setIfInBounds i true)[k]? = some true → live k := fun k hk => by
    rw [hset] at hk
    split at hk
    · subst_vars; exact hli
    · exact I.lst k hk
  -- what goes for every kind
  have hcl : ∀ (k : Nat) q, os[k]? = some q → (listed.setIfInBounds i true)[k]? = some true → ∀ e ∈ q.after.toList, Region.binds .any e = true → (listed.setIfInBounds i true).getD e.on false = true := by
    intro k q hq hk e he hb
    have hmono : ∀ z, listed.getD z false = true → (listed.setIfInBounds i true).getD z false = true := by
      intro z hz
      rw [Array.getD_eq_getD_getElem?, hset z]
      split
      · rfl
      · rw [← Array.getD_eq_getD_getElem?]; exact hz
    rw [hset k] at hk
    split at hk
    · subst_vars
      rw [ho] at hq; cases hq
      exact hmono _ (hr e he hb)
    · exact hmono _ (I.closed k q hq hk e he hb)
  have htm0 : ∀ v' t, (∀ (i' : Nat) x, ops[i']? = some x → x.1.dst = some t → (listed.setIfInBounds i true)[i']? ≠ some true) → VRel ι0 (es 0 t) ((a.put o.dst v').tmps.getD t undef) := by
    intro v' t hn
    have hnd : o.dst ≠ some t := by
      intro hd
      have := hn i _ hio (by rw [c3]; exact hd)
      rw [hset, if_pos rfl] at this
      exact this rfl
    rw [tmps_put hnd]
    refine I.tm0 t (fun k x hx hd hl => ?_)
    have := hn k x hx hd
    rw [hset] at this
    split at this
    · exact this rfl
    · exact this hl
  have htmi : ∀ (U' : Inj) (v' : Value), (∀ b, Inj.le (cutI U b) (cutI U' b)) → VRel (cutI U' (ms (i + 1)).next) (vs i) v' → ∀ (k : Nat) x t, ops[k]? = some x → x.1.dst = some t → (listed.setIfInBounds i true)[k]? = some true → VRel (cutI U' (ms (k + 1)).next) (vs k) ((a.put o.dst v').tmps.getD t undef) := by
    intro U' v' hcut hv k x t hx hd hl
    by_cases hki : k = i
    · subst hki
      rw [hio] at hx; cases hx
      simp only at hd
      rw [c3] at hd
      rw [hd]
      have htN : t < a.tmps.size := by
        rw [I.asz]
        rw [hd] at c4
        simpa using c4
      rw [tmps_put_self htN]
      exact hv
    · have hnd : o.dst ≠ some t := fun hd' => hki (R.apart hx hio hd (by rw [c3]; exact hd'))
      rw [tmps_put hnd]
      rw [hset, if_neg hki] at hl
      exact (I.tmi k x t hx hd hl).mono (hcut _)
  -- what leaves all that was there
  have soft : isLone qk = false → (∀ (j : Nat), i + 1 ≤ j → j ≤ os.size → Cur ops listed j → ∀ q, (ms i).next ≤ q → q < (ms (i + 1)).next → (ms j).get q = (ms (i + 1)).get q) →
      ∀ (ι' : Inj) (v' : Value) (w' : World), Inj.le (cutI U (ms i).next) ι' → Below cx.B cx.w0 w' → (∀ q g, ι' q = some g → q < (ms (i + 1)).next ∧ g.b < w'.heap.size) →
      (∀ q q' g g', ι' q = some g → ι' q' = some g' → (ms i).next ≤ q → (ms i).next ≤ q' → (ms (i + 1)).get q ≠ none → (ms (i + 1)).get q' ≠ none → q ≠ q' → g.b ≠ g'.b) →
      (∀ q g r, ι' q = some g → (ms i).next ≤ q → (ms (i + 1)).get q = some r → At cx ι' q r g w') → VRel ι' (vs i) v' → Exs w w' →
      (∀ q g, ι' q = some g → cutI U (ms i).next q = none → (ms i).next ≤ q ∧ w.heap.size ≤ g.b) → K (a.put o.dst v') w' := by
    intro hnl2 hag ι' v' w' hle hbel htl hown hobj hv hext hnew
    let U' : Inj := fun q => if (ms i).next ≤ q ∧ q < (ms (i + 1)).next then ι' q else U q
    have hU : ∀ q, ¬ ((ms i).next ≤ q ∧ q < (ms (i + 1)).next) → U' q = U q := fun q hq => if_neg hq
    have hU2 : ∀ q, (ms i).next ≤ q ∧ q < (ms (i + 1)).next → U' q = ι' q := fun q hq => if_pos hq
    have hι : ∀ q g, ι' q = some g → (q < (ms i).next ∧ U q = some g) ∨ ((ms i).next ≤ q ∧ q < (ms (i + 1)).next ∧ U' q = some g ∧ w.heap.size ≤ g.b) := by
      intro q g hq
      have hq1 := (htl q g hq).1
      cases hc : cutI U (ms i).next q with
      | some g' =>
        have e := hle q g' hc
        rw [hq] at e; cases e
        unfold cutI at hc
        split at hc
        · exact .inl ⟨by assumption, hc⟩
        · cases hc
      | none =>
        obtain ⟨n1, n2⟩ := hnew q g hq hc
        exact .inr ⟨n1, hq1, by rw [hU2 q ⟨n1, hq1⟩]; exact hq, n2⟩
    have hUle : Inj.le U U' := fun q g hq => by
      by_cases h : (ms i).next ≤ q ∧ q < (ms (i + 1)).next
      · rw [hfree q h] at hq; cases hq
      · rw [hU q h]; exact hq
    have hcut : ∀ b, Inj.le (cutI U b) (cutI U' b) := fun b q g hq => by
      unfold cutI at hq ⊢
      split at hq
      · rw [if_pos ‹_›]; exact hUle q g hq
      · cases hq
    have hιle : ∀ j, i + 1 ≤ j → j ≤ os.size → Inj.le ι' (cutI U' (ms j).next) := fun j h1 h2 q g hq => by
      have hn := (R.next h1 h2).2.1
      have := (htl q g hq).1
      unfold cutI
      rw [if_pos (by omega)]
      rcases hι q g hq with ⟨_, h⟩ | ⟨_, _, h, _⟩
      · exact hUle q g h
      · exact h
    have hUlt : ∀ q g, U' q = some g → g.b < w'.heap.size := by
      intro q g hq
      by_cases h : (ms i).next ≤ q ∧ q < (ms (i + 1)).next
      · rw [hU2 q h] at hq; exact (htl q g hq).2
      · rw [hU q h] at hq; exact Nat.lt_of_lt_of_le (I.lt q g hq) hext.size
    refine hK U' _ w' ⟨by simpa using I.size, by cases o.dst <;> simp [Act.put, I.asz], by rw [put_defers]; exact I.dfr, ?_, ?_, hbel, Nat.le_trans I.hbase hext.size, hUlt, ?_, hls, htm0 v', htmi U' v' hcut (hv.mono (hιle _ (Nat.le_refl _) (by omega))), ?_, Nat.le_trans I.osz hext.size, fun b hb hno => (I.old b hb hno).trans (hext.old b (Nat.lt_of_lt_of_le hb I.osz)), hcl⟩
    · intro q g hq
      by_cases h : (ms i).next ≤ q ∧ q < (ms (i + 1)).next
      · exact .inr ⟨i, by rw [hset]; simp, h.1, h.2⟩
      · rw [hU q h] at hq
        rcases I.dom q g hq with h0 | ⟨k, hk, k1, k2⟩
        · exact .inl h0
        · exact .inr ⟨k, by rw [hset]; split <;> first | rfl | exact hk, k1, k2⟩
    · intro q hq
      have := (R.next (Nat.zero_le i) (by omega)).2.1
      rw [hU q (by omega)]
      exact I.base q hq
    · intro j hj hcj'
      have hcj : Cur ops listed j := by
        intro k x hx hxl
        have hki : k ≠ i := by
          intro e; subst e
          rw [hio] at hx; cases hx
          rw [hnl2] at hxl; cases hxl
        have := hcj' k x hx hxl
        rw [hset, if_neg hki] at this
        exact this
      have hRj := I.rel j hj hcj
      by_cases hji : j ≤ i
      · have hn := (R.next hji (by omega)).2.1
        have : cutI U' (ms j).next = cutI U (ms j).next := by
          funext q
          unfold cutI
          split
          · exact hU q (by omega)
          · rfl
        rw [this]
        exact hRj.exs hext hbel
      · have hj1 : i + 1 ≤ j := by omega
        have hR := hRj.exs hext hbel
        obtain ⟨n1, n2, _⟩ := R.next hj1 hj
        obtain ⟨n4, n5, _⟩ := R.next (i := i) (j := j) (by omega) hj
        -- where a place of the new ones comes from
        have hsplit : ∀ q g, cutI U' (ms j).next q = some g → (cutI U (ms j).next q = some g ∧ g.b < w.heap.size) ∨ (ι' q = some g ∧ (ms i).next ≤ q ∧ w.heap.size ≤ g.b ∧ (ms j).get q = (ms (i + 1)).get q) := by
          intro q g hq
          unfold cutI at hq
          split at hq
          · rename_i hqj
            by_cases h : (ms i).next ≤ q ∧ q < (ms (i + 1)).next
            · rw [hU2 q h] at hq
              refine .inr ⟨hq, h.1, ?_, hag j hj1 hj hcj q h.1 h.2⟩
              rcases hι q g hq with ⟨h', _⟩ | ⟨_, _, _, h'⟩
              · omega
              · exact h'
            · rw [hU q h] at hq
              have hc : cutI U (ms j).next q = some g := by unfold cutI; rw [if_pos hqj]; exact hq
              exact .inl ⟨hc, hRj.lt q g hc⟩
          · cases hq
        refine ⟨hR.below, hR.base, hR.lo, hR.lonext, ?_, ?_, ?_, ?_, hR.ro⟩
        · intro q g hq
          unfold cutI at hq
          split at hq
          · assumption
          · cases hq
        · intro q g hq
          rcases hsplit q g hq with ⟨h1, h2⟩ | ⟨h1, _, h2, h3⟩
          · exact Nat.lt_of_lt_of_le h2 hext.size
          · exact (htl q g h1).2
        · intro q q' g g' hq hq' hy hy' hlo hne
          rcases hsplit q g hq with ⟨h1, h2⟩ | ⟨h1, h1', h2, h3⟩
          · rcases hsplit q' g' hq' with ⟨k1, k2⟩ | ⟨k1, k1', k2, k3⟩
            · exact hR.own q q' g g' h1 k1 hy hy' hlo hne
            · omega
          · rcases hsplit q' g' hq' with ⟨k1, k2⟩ | ⟨k1, k1', k2, k3⟩
            · omega
            · rw [h3] at hy; rw [k3] at hy'
              exact hown q q' g g' h1 k1 h1' k1' hy hy' hne
        · intro q g r hq hrr
          rcases hsplit q g hq with ⟨h1, h2⟩ | ⟨h1, h1', h2, h3⟩
          · exact (hR.obj q g r h1 hrr).move (hcut _) (.inl rfl)
          · rw [h3] at hrr
            exact (hobj q g r h1 h1' hrr).move (hιle j hj1 hj) (.inl rfl)
    · intro q g hq h0
      by_cases h : (ms i).next ≤ q ∧ q < (ms (i + 1)).next
      · rw [hU2 q h] at hq
        rcases hι q g hq with ⟨h', _⟩ | ⟨_, _, _, h'⟩
        · omega
        · exact .inl (Nat.le_trans I.osz h')
      · rw [hU q h] at hq
        exact I.new q g hq h0
  -- what may write, alone at its stage
  have lone : isLone qk = true → Cur ops listed i → ∀ (ι' : Inj) (v' : Value) (w' : World), Post cx (cutI U (ms i).next) (ms i) w ι' (ms (i + 1)) w' → VRel ι' (vs i) v' → K (a.put o.dst v') w' := by
    intro hq hcur ι' v' w' hp hv
    obtain ⟨z1, z2, z3⟩ := R.next (Nat.zero_le i) (by omega)
    obtain ⟨y1, y2, y3⟩ := R.next (i := i) (j := i + 1) (by omega) (by omega)
    have hUi : ∀ q g, U q = some g → q < (ms i).next := by
      intro q g hu
      rcases I.dom q g hu with h0 | ⟨k, hk, k1, k2⟩
      · omega
      · have hks : k < os.size := by rw [← I.size]; exact (Array.getElem?_eq_some_iff.1 hk).1
        rcases Nat.lt_trichotomy k i with h | h | h
        · have := (R.next (i := k + 1) (j := i) (by omega) (by omega)).2.1; omega
        · subst h; exact absurd hk hnot
        · obtain ⟨ok, iok, qq, e1, e2, e3, e4⟩ := R.op hks
          have hkv := I.lst k hk
          by_cases hpu : qq = .pure
          · have := R.pure hkv e2 hpu (e4 hpu)
            rw [this] at k2
            omega
          · by_cases hpk : qq = .peek
            · have := (R.reader hkv e2 hpk).1
              rw [this] at k2
              omega
            · exfalso
              rcases R.far i k _ _ hio e2 hq hpu (by omega) with h' | h' | ⟨_, h', _⟩
              · have := R.below ho k h'; omega
              · exact hnot (I.got e1 (I.closed k ok e1 hk) i h')
              · exact hpk h'
    have hUc : cutI U (ms i).next = U := by
      funext q
      unfold cutI
      split
      · rfl
      · cases hu : U q with
        | none => rfl
        | some g => have := hUi q g hu; omega
    rw [hUc] at hp
    have hcut : ∀ b, Inj.le (cutI U b) (cutI ι' b) := fun b q g hq => by
      unfold cutI at hq ⊢
      split at hq
      · rw [if_pos ‹_›]; exact hp.le q g hq
      · cases hq
    have hfull : ∀ b, (ms (i + 1)).next ≤ b → cutI ι' b = ι' := fun b hb => by
      funext q
      unfold cutI
      split
      · rfl
      · cases hu : ι' q with
        | none => rfl
        | some g => have := hp.rel.tight q g hu; omega
    have hmark : ∀ q g, U q = some g → (ms i).lo ≤ q → (ms i).get q ≠ none → w0.heap.size ≤ g.b ∨ ∃ o2 g2, ι0 o2 = some g2 ∧ g.b = g2.b ∧ (ms 0).lo ≤ o2 ∧ (ms 0).get o2 ≠ none := by
      intro q g hu hlo hne
      cases h0 : ι0 q with
      | none => exact I.new q g hu h0
      | some g0 =>
        have hq0 := ht q g0 h0
        have hb := I.base q hq0
        rw [hu, h0] at hb
        cases hb
        exact .inr ⟨q, g, h0, rfl, z1 ▸ hlo, fun hd => hne (z3 q hq0 hd)⟩
    refine hK ι' _ w' ⟨by simpa using I.size, by cases o.dst <;> simp [Act.put, I.asz], by rw [put_defers]; exact I.dfr, ?_, ?_, hp.rel.below, hp.rel.base, hp.rel.lt, ?_, hls, htm0 v', htmi ι' v' hcut (by rw [hfull _ (Nat.le_refl _)]; exact hv), ?_, Nat.le_trans I.osz hp.size, ?_, hcl⟩
    · intro q g hq
      cases hu : U q with
      | some g1 =>
        rcases I.dom q g1 hu with h0 | ⟨k, hk, k1, k2⟩
        · exact .inl h0
        · exact .inr ⟨k, by rw [hset]; split <;> first | rfl | exact hk, k1, k2⟩
      | none => exact .inr ⟨i, by rw [hset]; simp, (hp.new q g hq hu).1, hp.rel.tight q g hq⟩
    · intro q hq'
      cases hu : U q with
      | some g => rw [hp.le q g hu, ← I.base q hq', hu]
      | none =>
        cases hi' : ι' q with
        | none => rw [← I.base q hq', hu]
        | some g => have := (hp.new q g hi' hu).1; omega
    · intro j hj hcj
      have hij : i < j := (hcj i _ hio hq).1 (by rw [hset, if_pos rfl])
      have hno : ∀ (k : Nat) x, i + 1 ≤ k → k < j → ops[k]? = some x → isLone x.2.2 = false := by
        intro k x h1 h2 hx
        cases hxl : isLone x.2.2 with
        | false => rfl
        | true =>
        exfalso
        have := (hcj k x hx hxl).2 h2
        rw [hset, if_neg (by omega)] at this
        have := (hcur k x hx hxl).1 this
        omega
      have hsm := R.same (i := i + 1) (j := j) (by omega) hj hno
      obtain ⟨n1, n2, n3⟩ := R.next (i := i + 1) (j := j) (by omega) hj
      rw [hfull _ n2]
      have hrel := hp.rel
      refine ⟨hrel.below, hrel.base, by rw [n1]; exact hrel.lo, Nat.le_trans hrel.lonext n2, fun o g hq => Nat.lt_of_lt_of_le (hrel.tight o g hq) n2, hrel.lt, ?_, ?_, ?_⟩
      · intro o o' g g' hq hq' hy hy' hlo hne
        rw [hsm o (hrel.tight o g hq)] at hy
        rw [hsm o' (hrel.tight o' g' hq')] at hy'
        exact hrel.own o o' g g' hq hq' hy hy' hlo hne
      · intro o g r hq hr
        rw [hsm o (hrel.tight o g hq)] at hr
        exact hrel.obj o g r hq hr
      · rw [R.ro hj]; exact hw0.2.2
    · intro q g hq h0
      cases hu : U q with
      | some g1 =>
        have := hp.le q g1 hu
        rw [hq] at this; cases this
        exact I.new q g hu h0
      | none =>
        rcases (hp.new q g hq hu).2 with h | ⟨o2, g2, e1, e2, e3, e4⟩
        · exact .inl (Nat.le_trans I.osz h)
        · rw [e2]; exact hmark o2 g2 e1 e3 e4
    · intro b hb hno
      refine (I.old b hb hno).trans (hp.frame b (Nat.lt_of_lt_of_le hb I.osz) ?_)
      intro q g hu hlo hne he
      rcases hmark q g hu hlo hne with h | ⟨o2, g2, e1, e2, e3, e4⟩
      · omega
      · exact hno o2 g2 e1 e3 e4 (by rw [← e2]; exact he)
  unfold wpOp
  rw [ho]
  simp only
  have hcutl : Inj.le (cutI U (ms i).next) (cutI U (ms i).next) := .refl _
  have hlo0 := (R.next (Nat.zero_le i) (by omega)).1
  have hnx0 := (R.next (Nat.zero_le i) (by omega)).2.1
  have hro0 := R.ro (j := i) (by omega)
  have hctl : ∀ q g, cutI U (ms i).next q = some g → q < (ms i).next ∧ U q = some g := fun q g hq => by
    unfold cutI at hq
    split at hq
    · exact ⟨by assumption, hq⟩
    · cases hq
  cases hqk : qk with
  | pure =>
    have hm := R.pure hli hio hqk (hqp hqk)
    have hagree : ∀ (j : Nat), i + 1 ≤ j → j ≤ os.size → Cur ops listed j → ∀ q, (ms i).next ≤ q → q < (ms (i + 1)).next → (ms j).get q = (ms (i + 1)).get q := fun j _ _ _ q h1 h2 => by rw [hm] at h2; omega
    -- nothing new
    have fin : ∀ (v' : Value) (w' : World), Below cx.B cx.w0 w' → Exs w w' → VRel (cutI U (ms i).next) (vs i) v' → K (a.put o.dst v') w' := by
      intro v' w' hb hx hv
      refine soft (by rw [hqk]; rfl) hagree (cutI U (ms i).next) v' w' (.refl _) hb ?_ ?_ ?_ hv hx (fun q g hq hn => by rw [hq] at hn; cases hn)
      · intro q g hq
        obtain ⟨e1, e2⟩ := hctl q g hq
        exact ⟨by rw [hm]; exact e1, Nat.lt_of_lt_of_le (I.lt q g e2) hx.size⟩
      · intro q q' g g' hq hq' h1
        have := (hctl q g hq).1; omega
      · intro q g r hq h1
        have := (hctl q g hq).1; omega
    rcases hs.ok with ⟨g1, hq⟩ | ⟨g1, hvu, hm2⟩
    · have hw := gok_wanted (os := os) hE c1 g1
      rw [if_pos hw]
      refine .inl ?_
      -- the empty memory
      have hq2 : qOp1 O io.op (mask (tmpsOf os o) (es i)) ⟨[], (ms i).next, (ms i).lo, (ms i).ro⟩ = some (vs i, ⟨[], (ms i).next, (ms i).lo, (ms i).ro⟩) := by
        rw [hqk] at hq
        simp only [qRun] at hq
        have hpo := hqp hqk
        cases hop : io.op with
        | plain p =>
          rw [hop] at hpo hq
          simp only [qOp1] at hq ⊢
          exact (isP_mem (p := p) hpo hq).2 _
        | _ => rw [hop] at hpo; simp [isPO] at hpo
      have hr0 : Rel cx (cutI U (ms i).next) ⟨[], (ms i).next, (ms i).lo, (ms i).ro⟩ w :=
        ⟨I.below, I.hbase, by rw [hlo0]; exact hw0.1, by simp only; omega, fun q g hq => (hctl q g hq).1, fun q g hq => I.lt q g (hctl q g hq).2, fun q q' g g' _ _ h => absurd rfl h, fun q g r _ h => (by cases h), by simp only; rw [hro0]; exact hw0.2.2⟩
      refine qOp1_sound R.hO hr0 hE c2 hq2 ?_
      intro ι' v' w' hp hv
      have hιe : Inj.le ι' (cutI U (ms i).next) := fun q g hq => by
        cases hc : cutI U (ms i).next q with
        | some g1 => have := hp.le q g1 hc; rw [hq] at this; exact this.symm
        | none => have := (hp.new q g hq hc).1; have := hp.rel.tight q g hq; simp only at *; omega
      exact fin v' w' hp.rel.below ⟨hp.size, fun k hk => hp.frame k hk (fun q g _ _ h => absurd rfl h)⟩ (hv.mono hιe)
    · have hw := gok_wanted (os := os) hE c1 g1
      rw [if_neg (by rw [hw]; simp)]
      exact fin undef w I.below (.refl w) (by rw [hvu]; exact .gone)
  | peek =>
    obtain ⟨hm, n, g, a', o', off, hop, hpt, hld⟩ := R.reader hli hio hqk
    have hguard := (R.peek i _ hio hqk).1
    have hagree : ∀ (j : Nat), i + 1 ≤ j → j ≤ os.size → Cur ops listed j → ∀ q, (ms i).next ≤ q → q < (ms (i + 1)).next → (ms j).get q = (ms (i + 1)).get q := fun j _ _ _ q h1 h2 => by rw [hm] at h2; omega
    have fin : ∀ (v' : Value) (w' : World), Below cx.B cx.w0 w' → Exs w w' → VRel (cutI U (ms i).next) (vs i) v' → K (a.put o.dst v') w' := by
      intro v' w' hb hx hv
      refine soft (by rw [hqk]; rfl) hagree (cutI U (ms i).next) v' w' (.refl _) hb ?_ ?_ ?_ hv hx (fun q g hq hn => by rw [hq] at hn; cases hn)
      · intro q g hq
        obtain ⟨e1, e2⟩ := hctl q g hq
        exact ⟨by rw [hm]; exact e1, Nat.lt_of_lt_of_le (I.lt q g e2) hx.size⟩
      · intro q q' g g' hq hq' h1
        have := (hctl q g hq).1; omega
      · intro q g r hq h1
        have := (hctl q g hq).1; omega
    have hw := gok_wanted (os := os) hE c1 (show gok io.guard (mask (tmpsOf os o) (es i)) = some true by rw [hguard]; rfl)
    rw [if_pos hw]
    refine .inl ?_
    have go : ∀ j, i ≤ j → j ≤ os.size → Cur ops listed j → aop (.load n g a') (aev (mask (tmpsOf os o) (es i))) (ms j) = some (vs i, ms j) → (∀ ι' v', Inj.le ι' (cutI U (ms j).next) → VRel ι' (vs i) v' → VRel (cutI U (ms i).next) (vs i) v') → o.wp cx.P a w K Q := by
      intro j hij hjl hcj hv hrel
      have hreli := I.rel j hjl hcj
      have hEj : ERel (cutI U (ms j).next) N (mask (tmpsOf os o) (es i)) a.tmps := hE.mono (cutI_le (R.next hij hjl).2.1)
      obtain ⟨_, o2, off2, hpt2, hld2⟩ := load_mem hv
      have hq1 : qOp1 O io.op (mask (tmpsOf os o) (es i)) ((ms j).floor (ms j).next) = some (vs i, (ms j).floor (ms j).next) := by
        rw [show io.op = .plain (.load n g a') from hop]
        exact hld2 _ rfl
      refine qOp1_sound R.hO (hreli.floor hreli.lonext) hEj c2 hq1 ?_
      intro ι' v' w' hp hv'
      have hx : Exs w w' := by
        refine ⟨hp.size, fun k hk => hp.frame k hk (fun q g hq hlo _ => ?_)⟩
        have := hreli.tight q g hq
        simp only [Mem.lo_floor] at hlo
        omega
      have hιe : Inj.le ι' (cutI U (ms j).next) := fun q g hq => by
        cases hc : cutI U (ms j).next q with
        | some g1 => have := hp.le q g1 hc; rw [hq] at this; exact this.symm
        | none => have := (hp.new q g hq hc).1; have := hp.rel.tight q g hq; simp only [Mem.next_floor] at *; omega
      exact fin v' w' hp.rel.below hx (hrel ι' v' hιe hv')
    rcases I.stage R ho hio hqk hnot hr with hcur | ⟨k, x, hik, hkl, hx, hxl, hkd, hcur⟩
    · exact go i (Nat.le_refl _) (by omega) hcur (hld _ rfl) fun ι' v' h1 h2 => h2.mono h1
    · have hnc : i ∉ (closure os).getD k [] := fun h => by
        have hk : k < os.size := by rw [← R.len]; exact (List.getElem?_eq_some_iff.1 hx).1
        have e1 := Array.getElem?_eq_getElem hk
        exact hnot (I.got e1 (I.closed _ _ e1 hkd) i h)
      obtain ⟨h1, h2⟩ := R.again hio hqk hop hx hxl hik hkl hli (fun j hj => I.lst j (I.got ho hr j hj)) hnc
      have hks : k < os.size := by rw [← R.len]; exact (List.getElem?_eq_some_iff.1 hx).1
      refine go (k + 1) (by omega) (by omega) hcur h1 fun ι' v' h3 h4 => eqv_rel h2 (fun q g hq hg => ?_) h4
      have h5 := h3 q g hg
      have := (R.next (Nat.zero_le i) (by omega)).2.1
      unfold cutI at h5 ⊢
      rw [if_pos (by omega)]
      split at h5
      · exact h5
      · cases h5
  | quiet =>
    have hcur := I.cur R ho hio (by rw [hqk]; simp) (by rw [hqk]; simp) hnot hr
    have hreli := I.rel i (by omega) hcur
    have hagree : ∀ (j : Nat), i + 1 ≤ j → j ≤ os.size → Cur ops listed j → ∀ q, (ms i).next ≤ q → q < (ms (i + 1)).next → (ms j).get q = (ms (i + 1)).get q := by
      intro j h1 h2 hcj q _ hq
      refine R.same h1 h2 (fun k x k1 k2 hx => ?_) q hq
      cases hxl : isLone x.2.2 with
      | false => rfl
      | true =>
      exfalso
      have := (hcj k x hx hxl).2 k2
      have := (hcur k x hx hxl).1 this
      omega
    have fin : ∀ (ι' : Inj) (v' : Value) (w' : World), Inj.le (cutI U (ms i).next) ι' → Rel cx ι' (ms (i + 1)) w' → VRel ι' (vs i) v' → Exs w w' →
        (∀ q g, ι' q = some g → cutI U (ms i).next q = none → (ms i).next ≤ q ∧ w.heap.size ≤ g.b) → K (a.put o.dst v') w' := by
      intro ι' v' w' hle hrel hv hx hnew
      refine soft (by rw [hqk]; rfl) hagree ι' v' w' hle hrel.below (fun q g hq => ⟨hrel.tight q g hq, hrel.lt q g hq⟩) ?_ (fun q g r hq _ hr => hrel.obj q g r hq hr) hv hx hnew
      intro q q' g g' hq hq' h1 h1' hy hy' hne
      exact hrel.own q q' g g' hq hq' hy hy' (by omega) hne
    rcases hs.ok with ⟨g1, hq⟩ | ⟨g1, hvu, hm⟩
    · have hw := gok_wanted (os := os) hE c1 g1
      rw [if_pos hw]
      refine .inl ?_
      rw [hqk] at hq
      simp only [qRun] at hq
      cases hq1 : qOp1 O io.op (mask (tmpsOf os o) (es i)) ((ms i).floor (ms i).next) with
      | none => rw [hq1] at hq; cases hq
      | some p =>
        obtain ⟨pv, m1⟩ := p
        rw [hq1] at hq
        simp only [Option.map_some, Option.some.injEq, Prod.mk.injEq] at hq
        obtain ⟨hpv, hm⟩ := hq
        subst hpv
        refine qOp1_sound R.hO (hreli.floor hreli.lonext) hE c2 hq1 ?_
        intro ι' v' w' hp hv
        have hx : Exs w w' := by
          refine ⟨hp.size, fun k hk => hp.frame k hk (fun q g hq hlo _ => ?_)⟩
          have := hreli.tight q g hq
          simp only [Mem.lo_floor] at hlo
          omega
        refine fin ι' v' w' hp.le ?_ hv hx ?_
        · rw [← hm]; exact hp.rel.floor hreli.lo
        · intro q g hq hn
          obtain ⟨n1, n2⟩ := hp.new q g hq hn
          refine ⟨n1, ?_⟩
          rcases n2 with n2 | ⟨o2, g2, e1, e2, e3, e4⟩
          · exact n2
          · have := hreli.tight o2 g2 e1
            simp only [Mem.lo_floor] at e3
            omega
    · have hw := gok_wanted (os := os) hE c1 g1
      rw [if_neg (by rw [hw]; simp)]
      refine fin (cutI U (ms i).next) undef w (.refl _) ?_ (by rw [hvu]; exact .gone) (.refl w) (fun q g hq hn => by rw [hq] at hn; cases hn)
      rw [hm]; exact hreli
  | lone pan chk =>
    have hcur := I.cur R ho hio (by rw [hqk]; simp) (by rw [hqk]; simp) hnot hr
    have hreli := I.rel i (by omega) hcur
    rcases hs.ok with ⟨g1, hq⟩ | ⟨g1, hvu, hm⟩
    · have hw := gok_wanted (os := os) hE c1 g1
      rw [if_pos hw]
      refine .inl ?_
      rw [hqk] at hq
      simp only [qRun] at hq
      exact qOp1_sound R.hO hreli hE c2 hq (fun ι' v' w' hp hv => lone (by rw [hqk]; rfl) hcur ι' v' w' hp hv)
    · have hw := gok_wanted (os := os) hE c1 g1
      rw [if_neg (by rw [hw]; simp)]
      refine lone (by rw [hqk]; rfl) hcur (cutI U (ms i).next) undef w ?_ (by rw [hvu]; exact .gone)
      rw [hm]; exact .refl hreli

theorem Inv.any {ι0 : Inj} {d0 : List Deferred} {w0 : World} (R : Reg cx C O N os ops es ms vs live) (ht : ∀ o g, ι0 o = some g → o < (ms 0).next) (hw0 : cx.lo ≤ (ms 0).lo ∧ cx.lo ≤ (ms 0).next ∧ (ms 0).ro = cx.lo) {Q : Exit → Act → World → Prop}
    (hQ : ∀ listed U a w, Inv os ops cx N es ms vs live ι0 d0 w0 listed U a w → (∀ i, i < os.size → listed[i]? = some true) → Q .normal a w)
    (hP : ∀ i listed U a w K, ¬ live i → Inv os ops cx N es ms vs live ι0 d0 w0 listed U a w → i ∈ Region.ready .any os listed → wpOp cx.P os Q i K a w) :
    ∀ (fuel : Nat) (listed : Array Bool) (U : Inj) (a : Act) (w : World), Inv os ops cx N es ms vs live ι0 d0 w0 listed U a w → (listed.toList.filter fun b => !b).length ≤ fuel → wpAny cx.P .any os Q fuel listed a w := by
  have hall : ∀ (listed : Array Bool) (U : Inj) (a : Act) (w : World), Inv os ops cx N es ms vs live ι0 d0 w0 listed U a w → Region.ready .any os listed = [] → ∀ i, i < os.size → listed[i]? = some true := by
    intro listed U a w I hr i
    induction i using Nat.strongRecOn with
    | _ i ih =>
      intro hi
      cases hq : listed[i]? with
      | none =>
        rw [Array.getElem?_eq_none_iff, I.size] at hq
        omega
      | some b =>
        cases b with
        | true => rfl
        | false =>
          exfalso
          have ho := Array.getElem?_eq_getElem hi
          have : i ∈ Region.ready .any os listed := by
            unfold Region.ready
            rw [List.mem_filter]
            refine ⟨by simpa using hi, ?_⟩
            simp only [Bool.and_eq_true, Bool.not_eq_true']
            refine ⟨by rw [Array.getD_eq_getD_getElem?, hq]; rfl, ?_⟩
            rw [ho]
            simp only [Option.map_some, Option.getD_some, Array.all_eq_true]
            intro q hq'
            cases hb : Region.binds .any (os[i].after[q]) with
            | false => rfl
            | true =>
              have hlt := R.edge ho (e := os[i].after[q]) (by simp) hb
              have := ih _ hlt (by omega)
              rw [Array.getD_eq_getD_getElem?, this]; rfl
          rw [hr] at this
          cases this
  intro fuel
  induction fuel with
  | zero =>
    intro listed U a w I hf
    have hr : Region.ready .any os listed = [] := by
      apply List.eq_nil_iff_forall_not_mem.2
      intro i hi
      obtain ⟨o, ho, hnl, _⟩ := ready_spec hi
      have hil : i < listed.size := by rw [I.size]; exact (Array.getElem?_eq_some_iff.1 ho).1
      have : listed[i] = false := by
        rw [Array.getD_eq_getD_getElem?, Array.getElem?_eq_getElem hil] at hnl
        simpa using hnl
      have hm : false ∈ listed.toList.filter fun b => !b := by
        rw [List.mem_filter]
        exact ⟨by rw [← this]; simp, rfl⟩
      have := List.length_pos_of_mem hm
      omega
    exact ⟨hr, hQ listed U a w I (hall listed U a w I hr)⟩
  | succ fuel ih =>
    intro listed U a w I hf
    refine ⟨fun hr => hQ listed U a w I (hall listed U a w I hr), fun i hi => ?_⟩
    by_cases hli : live i
    rotate_left
    · exact hP i listed U a w _ hli I hi
    refine I.step R ht hw0 hi hli (fun U' a' w' I' => ih _ U' a' w' I' ?_)
    obtain ⟨o, ho, hnl, _⟩ := ready_spec hi
    have hil : i < listed.size := by rw [I.size]; exact (Array.getElem?_eq_some_iff.1 ho).1
    have hfalse : listed[i] = false := by
      rw [Array.getD_eq_getD_getElem?, Array.getElem?_eq_getElem hil] at hnl
      simpa using hnl
    have key : ∀ (l : List Bool) (i : Nat), l[i]? = some false → ((l.set i true).filter fun b => !b).length + 1 = (l.filter fun b => !b).length := by
      intro l
      induction l with
      | nil => intro i h; simp at h
      | cons b t ih =>
        intro i h
        cases i with
        | zero => simp at h; subst h; simp
        | succ i =>
          have := ih i (by simpa using h)
          cases b <;> simp [List.filter_cons] at this ⊢ <;> omega
    have := key listed.toList i (by simp [hil, hfalse])
    simp only [Array.toList_setIfInBounds]
    omega
end

/-- The stages of a region: all of them; or all but the one that panics, and what stands behind it. -/
theorem draws_steps {cx : Cx} {C : Code?} {O : Orc} (hO : OS cx C O) (hKO : KPO O) {N : Nat} {os : Array Oper} {ops : List (IOper × List Nat × QK)} (hc : compD cx.P N os = some ops) (hok : drawOk os = true) {env : Env} {m : Mem} {k : Env → Mem → Option Out} {kp : Value → Mem → Option Out} {r : Out} (h : qOps O m.next ops env m k kp = some r) :
    ∃ (live : Nat → Prop) (es : Nat → Env) (ms : Nat → Mem) (vs : Nat → Value), Reg cx C O N os ops es ms vs live ∧ es 0 = env ∧ ms 0 = m ∧
      (((∀ i, live i) ∧ k (es os.size) (ms os.size) = some r) ∨ ∃ lim x, ops[lim]? = some x ∧ (∀ i, (i = lim ∨ lim ∈ (closure os).getD i []) ↔ ¬ live i) ∧ True ∧ PanQ O x (es lim) (ms lim) kp r) := by
  obtain ⟨lim, es, ms, vs, hlim, e0, m0, hst, hk'⟩ := qOps_steps h
  obtain ⟨c1, c2, c3, c4, c5, c6⟩ := compD_spec hc
  rcases hk' with ⟨h1, h2⟩ | ⟨x, hx, hp⟩
  · refine ⟨fun _ => True, es, ms, vs, ⟨hO, hKO, c1, c2, c3, c4, c5, hok, fun j x _ hx => ?_, fun j hj => absurd trivial hj⟩, e0, m0, .inl ⟨fun _ => trivial, ?_⟩⟩
    · rw [m0]
      refine hst j x ?_ hx
      rw [h1]; exact (List.getElem?_eq_some_iff.1 hx).1
    · rw [← c1, ← h1]; exact h2
  · let live : Nat → Prop := fun i => ¬ (i = lim ∨ lim ∈ (closure os).getD i [])
    let val : Nat → Env → Value := fun j e => match ops[j]? with | some y => (match y.1.op with | .plain (.move a) => aev (mask y.2.1 e) a | _ => undef) | none => undef
    let dst : Nat → Option Nat := fun j => match ops[j]? with | some y => y.1.dst | none => none
    let es2 : Nat → Env := Nat.rec (es 0) fun j e => if j < lim then es (j + 1) else if (decide (j = lim) || ((closure os).getD j []).contains lim) = true then e else put e (dst j) (val j e)
    have hes : ∀ j, j ≤ lim → es2 j = es j := by
      intro j hj
      cases j with
      | zero => rfl
      | succ j => show (if j < lim then es (j + 1) else _) = _; rw [if_pos (by omega)]
    have hes2 : ∀ j, lim ≤ j → es2 (j + 1) = if (decide (j = lim) || ((closure os).getD j []).contains lim) = true then es2 j else put (es2 j) (dst j) (val j (es2 j)) := by
      intro j hj
      show (if j < lim then es (j + 1) else _) = _
      rw [if_neg (by omega)]
    have hdl : ∀ j, (decide (j = lim) || ((closure os).getD j []).contains lim) = true ↔ ¬ live j := by
      intro j
      simp only [Bool.or_eq_true, decide_eq_true_eq, List.contains_iff_mem, live, Classical.not_not]
    have hcb : ∀ j, j < lim → live j := by
      intro j hj hd
      rcases hd with h | h
      · omega
      · have hjo : j < os.size := by have := (List.getElem?_eq_some_iff.1 hx).1; omega
        have := Reg.belowC hok (Array.getElem?_eq_getElem hjo) lim h
        omega
    obtain ⟨l, v, m', hq, hg, hpn, hkp⟩ := hp
    refine ⟨live, es2, fun j => if j ≤ lim then ms j else ms lim, fun j => if j < lim then vs j else val j (es2 j), ⟨hO, hKO, c1, c2, c3, c4, c5, hok, fun j y hj hy => ?_, fun j hj => ?_⟩, by rw [hes 0 (Nat.zero_le _)]; exact e0, by simp only [Nat.zero_le, if_true]; exact m0, .inr ⟨lim, x, hx, fun i => by simp only [live, Classical.not_not], trivial, ?_⟩⟩
    · simp only [Nat.zero_le, if_true, m0]
      by_cases hjl : j < lim
      · have := hst j y hjl hy
        rw [hes j (by omega), hes (j + 1) (by omega)]
        simp only [if_pos hjl, if_pos (show j ≤ lim by omega), if_pos (show j + 1 ≤ lim by omega)]
        exact this
      · have hne : j ≠ lim := fun e => hj (.inl e)
        have hmv := c6 lim j x y l hx hy hq (by omega)
        rcases hmv with h | ⟨h1, h2⟩
        · exact absurd (.inr h) hj
        have hop : ∃ a, y.1.op = .plain (.move a) := by
          unfold isMv at h1
          split at h1
          · exact ⟨_, by assumption⟩
          · cases h1
        obtain ⟨a, hop⟩ := hop
        have hval : val j (es2 j) = aev (mask y.2.1 (es2 j)) a := by simp only [val, hy, hop]
        have hdst : dst j = y.1.dst := by simp only [dst, hy]
        rw [hes2 j (by omega), if_neg (fun h => (hdl j).1 h hj)]
        simp only [if_neg hjl, if_neg (show ¬ j ≤ lim by omega), if_neg (show ¬ j + 1 ≤ lim by omega)]
        refine ⟨by rw [hdst], .inl ⟨by rw [h2]; rfl, ?_⟩, fun pan l hl => ?_⟩
        · have hqp : y.2.2 = .pure := by
            obtain ⟨o', ho'⟩ : ∃ o, os[j]? = some o := ⟨_, Array.getElem?_eq_getElem (by rw [← c1]; exact (List.getElem?_eq_some_iff.1 hy).1)⟩
            exact compD_move hc hy hop
          rw [hqp, hval]
          simp only [qRun, hop, qOp1, aop]
        · have hqp := compD_move hc hy hop
          rw [hqp] at hl; cases hl
    · have hge : lim ≤ j := Nat.le_of_not_lt fun h => hj (hcb j h)
      refine ⟨?_, ?_⟩
      · rw [hes2 j hge, if_pos ((hdl j).2 hj)]
      · by_cases e : j = lim
        · subst e
          simp only [Nat.le_refl, if_true]
          rw [if_neg (by omega)]
        · rw [if_neg (by omega), if_neg (by omega)]
    · simp only [Nat.le_refl, if_true, hes lim (Nat.le_refl _)]
      exact ⟨l, v, m', hq, hg, hpn, hkp⟩
theorem draws_sound {cx : Cx} {C : Code?} {O : Orc} (hO : OS cx C O) (hKO : KPO O) (hm : cx.P.follows .mixedOrders = true) {N id : Nat} {os : Array Oper} {ops : List (IOper × List Nat × QK)} (hc : compD cx.P N os = some ops) (hok : drawOk os = true)
    {ι : Inj} {env : Env} {m : Mem} {d : List Dfr} {a : Act} {w : World} {k : Kont} {r : Out} {Q : Exit → Act → World → Prop} (hs : SR cx N ι env m d a w) (h : (qOps O m.next ops env m (fun env m => k .normal env m d) fun v m => k (.panic v) (wipe ops env) m d) = some r) (hk : KS cx N ι m w k r Q) :
    (Code.region id os true).wp cx.P Q a w := by
  obtain ⟨live, es, ms, vs, R, e0, m0, hk'⟩ := draws_steps hO hKO hc hok h
  have hs0 : Ext w { w with drawn := w.drawn + 1 } := ext_drew w
  have hrel0 := hs.rel.ext hs0
  refine wp_region_any hm ?_
  subst e0 m0
  have hcutι : ∀ b, (ms 0).next ≤ b → cutI ι b = ι := fun b hb => by
    funext q
    unfold cutI
    split
    · rfl
    · cases hq : ι q with
      | none => rfl
      | some g => have := hs.rel.tight q g hq; omega
  have hnone : ∀ i : Nat, (Array.replicate os.size false)[i]? ≠ some true := by
    intro i
    rw [Array.getElem?_replicate]
    split <;> simp
  have hle : ∀ j listed U a' w', Inv os ops cx N es ms vs live ι a.defers { w with drawn := w.drawn + 1 } listed U a' w' → j ≤ os.size → Inj.le ι (cutI U (ms j).next) := fun j listed U a' w' I hj q g hq => by
    have h0 := hs.rel.tight q g hq
    have := (R.next (Nat.zero_le j) hj).2.1
    unfold cutI
    rw [if_pos (by omega), I.base q h0, hq]
  have hpost : ∀ j listed U a' w', Inv os ops cx N es ms vs live ι a.defers { w with drawn := w.drawn + 1 } listed U a' w' → j ≤ os.size → Cur ops listed j → Post cx ι (ms 0) w (cutI U (ms j).next) (ms j) w' := by
    intro j listed U a' w' I hj hcur
    have hrn := I.rel j hj hcur
    obtain ⟨n1, n2, n3⟩ := R.next (Nat.zero_le j) hj
    refine ⟨hle j listed U a' w' I hj, hrn, n1, n2, Nat.le_trans hs0.size I.osz, ?_, ?_, n3⟩
    · intro q g hq h0
      unfold cutI at hq
      split at hq
      · refine ⟨?_, ?_⟩
        · apply Nat.le_of_not_lt
          intro hlt
          rw [I.base q hlt, h0] at hq
          cases hq
        · rcases I.new q g hq h0 with h | h
          · exact .inl (Nat.le_trans hs0.size h)
          · exact .inr h
      · cases hq
    · intro b hb hno
      have h1 : Same (w.heap[b]?) (({ w with drawn := w.drawn + 1 } : World).heap[b]?) := hs0.soft.old b hb
      exact h1.trans (I.old b (Nat.lt_of_lt_of_le hb hs0.size) hno)
  refine Inv.any (N := N) (es := es) (ι0 := ι) (d0 := a.defers) (w0 := { w with drawn := w.drawn + 1 }) R (fun o g hq => hs.rel.tight o g hq) ⟨hs.rel.lo, hs.rel.lonext, hs.rel.ro⟩ ?_ ?_ os.size _ ι a _
    ⟨by simp, hs.env.size, rfl, fun o g hq => .inl (hs.rel.tight o g hq), fun o _ => rfl, hrel0.below, hrel0.base, hrel0.lt, ?_, fun i hi => absurd hi (hnone i), ?_, ?_, ?_, Nat.le_refl _, fun _ _ _ => .inl rfl, ?_⟩ ?_
  · intro listed U a' w' I hl
    have hlen : ops.length = os.size := R.len
    rcases hk' with ⟨hll, hk'⟩ | ⟨lim, x, hx, hnl, _, _⟩
    · have hcur : Cur ops listed os.size := fun k x hx _ => by
        have hk : k < os.size := by rw [← hlen]; exact (List.getElem?_eq_some_iff.1 hx).1
        exact ⟨fun _ => hk, fun _ => hl k hk⟩
      have hp := hpost os.size listed U a' w' I (Nat.le_refl _) hcur
      refine hk .normal (es os.size) (ms os.size) d (cutI U (ms os.size).next) a' w' .normal hk' hp ⟨hp.rel, ⟨I.asz, ?_⟩, by rw [I.dfr]; exact hs.dfr.mono hp.le⟩ .normal
      intro t
      by_cases hw : ∃ (k : Nat) (x : IOper × List Nat × QK), ops[k]? = some x ∧ x.1.dst = some t
      · obtain ⟨k, x, hx, dx⟩ := hw
        have hk : k < os.size := by rw [← hlen]; exact (List.getElem?_eq_some_iff.1 hx).1
        rw [R.held hx dx (hll k) (by omega) (Nat.le_refl _)]
        exact (I.tmi k x t hx dx (hl k hk)).mono (cutI_le (R.next (by omega) (Nat.le_refl _)).2.1)
      · have hn : ∀ (k : Nat) (x : IOper × List Nat × QK), ops[k]? = some x → x.1.dst ≠ some t := fun k x hx hd => hw ⟨k, x, hx, hd⟩
        rw [R.stays hn (Nat.le_refl _)]
        exact (I.tm0 t (fun k x hx hd => absurd hd (hn k x hx))).mono hp.le
    · exfalso
      have h1 : lim < os.size := by rw [← hlen]; exact (List.getElem?_eq_some_iff.1 hx).1
      exact (hnl lim).1 (.inl rfl) (I.lst lim (hl lim h1))
  · intro i listed U a' w' K hil I hi
    have hlen : ops.length = os.size := R.len
    obtain ⟨o, ho, hnl, hr⟩ := ready_spec hi
    have hios : i < os.size := (Array.getElem?_eq_some_iff.1 ho).1
    rcases hk' with ⟨hll, hk'⟩ | ⟨lim, x, hx, hdead, _, l, v, m', hq, hg, hpn, hkp⟩
    · exact absurd (hll i) hil
    have hll : lim < os.size := by rw [← hlen]; exact (List.getElem?_eq_some_iff.1 hx).1
    have hnot : listed[i]? ≠ some true := by
      intro h
      rw [Array.getD_eq_getD_getElem?, h] at hnl
      simp at hnl
    obtain ⟨io, qk, hio, hco, hqp⟩ := R.fit i o ho
    have hcase : i = lim := by
      apply Classical.byContradiction
      intro hne
      refine hil (Classical.byContradiction fun hd => ?_)
      rcases (hdead i).2 hd with h | h
      · exact hne h
      · exact (hdead lim).1 (.inl rfl) (I.lst lim (I.got ho hr lim h))
    subst hcase
    rw [hio] at hx; cases hx
    simp only at hq hg hpn
    obtain ⟨d1, d2, d3, d4⟩ := compO_spec hco
    have hE := I.env R (fun o g hq => hs.rel.tight o g hq) ho hnl hr
    have hcur := I.cur R ho hio (by rw [hq]; simp) (by rw [hq]; simp) hnot hr
    have hp := hpost i listed U a' w' I (by omega) hcur
    unfold wpOp
    rw [ho]
    simp only
    rw [if_pos (gok_wanted (os := os) hE d1 hg)]
    refine .inl (qPan1_sound hO hp.rel hE d2 hpn fun ι2 v2 w2 hp2 hv2 => ?_)
    have hp3 := hp.trans hp2 hs.rel
    refine hk (.panic v) (wipe ops (es 0)) m' d ι2 a' w2 _ hkp hp3 ⟨hp3.rel, ⟨I.asz, fun t => ?_⟩, by rw [I.dfr]; exact hs.dfr.mono hp3.le⟩ (.panic hv2)
    unfold wipe
    split
    · exact .unk _
    · rename_i hw
      refine (I.tm0 t fun k x hx hd => absurd ?_ hw).mono hp3.le
      rw [List.any_eq_true]
      exact ⟨x, List.mem_of_getElem? hx, by rw [hd]; simp⟩
  · intro j hj hcj
    obtain ⟨n1, n2, n3⟩ := R.next (Nat.zero_le j) hj
    have hsm := R.same (Nat.zero_le j) hj (fun k x _ h2 hx => by
      cases hxl : isLone x.2.2 with
      | false => rfl
      | true => exact absurd ((hcj k x hx hxl).2 h2) (hnone k))
    rw [hcutι _ n2]
    refine ⟨hrel0.below, hrel0.base, by rw [n1]; exact hrel0.lo, Nat.le_trans hrel0.lonext n2, fun o g hq => Nat.lt_of_lt_of_le (hrel0.tight o g hq) n2, hrel0.lt, ?_, ?_, ?_⟩
    · intro o o' g g' hq hq' hy hy' hlo hne
      rw [hsm o (hrel0.tight o g hq)] at hy
      rw [hsm o' (hrel0.tight o' g' hq')] at hy'
      exact hrel0.own o o' g g' hq hq' hy hy' hlo hne
    · intro o g r hq hr
      rw [hsm o (hrel0.tight o g hq)] at hr
      exact hrel0.obj o g r hq hr
    · rw [R.ro hj]; exact hrel0.ro
  · intro t _
    exact hs.env.at_ t
  · intro i x t hx hd hl
    exact absurd hl (hnone i)
  · intro o g hq h0
    rw [hq] at h0; cases h0
  · intro i q hq hl
    exact absurd hl (hnone i)
  · simp
end Go.Proofs.Ytjojfpmelhaknaa.D
