/-
  What is given: functions of Go's library, by contracts that the kit has proved; and the package's own check.
-/
import Derived.Test.YtjojfpmelhaknaaV8
import Derived.Test.YtjojfpmelhaknaaGB
import Derived.Test.YtjojfpmelhaknaaShelf
import Derived.Lib.QuietBelow
import Derived.Lib.SplitLaws
import Derived.Lib.Fields
namespace Go.Proofs.Ytjojfpmelhaknaa.D
open Go.RowKit
set_option linter.unusedVariables false
set_option linter.unusedSimpArgs false
def gTrue : List Value → Option Value
  | [] => some (.bool true)
  | _ => none
def gIdxB : List Value → Option Value
  | [.string s, .int .u8 c] => some (.int .i64 (Lib.indexByte s.data.toList c.toNat.toUInt8))
  | _ => none
def gCount : List Value → Option Value
  | [.string s, .string t] => (match t.data.toList with | [c] => some (.int .i64 (Lib.countByte s.data.toList c)) | _ => none)
  | _ => none
def gItoa : List Value → Option Value
  | [.int .i64 n] => if -9223372036854775808 ≤ n ∧ n ≤ 9223372036854775807 then some (S (Lib.itoa n)) else none
  | _ => none
def gFields : List Value → Option (List (List UInt8))
  | [.string s] => if s.data.toList.all (fun b => decide (b.toNat < 128)) = true ∧ s.size < 4294967281 then some (Lib.fields s.data.toList) else none
  | _ => none
def gSplit : List Value → Option (List (List UInt8))
  | [.string s, .string t] => if t.size = 1 ∧ s.size < 4294967281 then some (Lib.split s.data.toList t.data.toList) else none
  | _ => none
def gNumD : List Value → Option Value
  | [.int .u64 u] => if 1 ≤ u ∧ u < 18446744073709551616 then some (.int .i64 (Lib.nDigits u.toNat)) else none
  | _ => none
def gSmall : List Value → Option Value
  | [.int .i64 i] => if 0 ≤ i ∧ i < 100 then some (S (Lib.decDigits i.toNat)) else none
  | _ => none
/-- The library's. -/
def gnT : List (Nat × GK) := [
  [(48, .pure gIdxB)],
  [(35, .pure gCount)],
  [(49, .same)],
  []].flatten
def gT : List (Nat × GK) := (10, .pure gTrue) :: gnT
def gvT : FuncId → Option (List Value → Option Value) := gvV gT
def GvOk (f : FuncId) (k : GK) : Prop :=
  gkB k ∧ ∀ args v m m', gkD k args m = some (v, m') → ∀ w, GOK w → Goes Try.prog f args.toArray w (gkE k args w)
theorem goes_calls {f : FuncId} {F : Func} {c : Code} (hf : Try.prog.funcs[f]? = some F) (hname : (F.name == "runtime.NumGoroutine") = false) (hb : F.body = some c) {args : Array Value} {w : World} {Q : Ending → World → Prop} (h : Calls Try.prog f args w Q) : Goes Try.prog f args w Q :=
  .inl ⟨enters hf hname hb args w, h⟩
theorem pure_ok {f : FuncId} {g : List Value → Option Value} (h : ∀ args v, g args = some v → base v = true ∧ (∀ a ∈ args, base a = true) ∧ ∀ w, GOK w → Goes Try.prog f args.toArray w fun e w' => e = .returned v ∧ Below w.heap.size w w') : GvOk f (.pure g) := by
  refine ⟨fun args v hv => ⟨(h args v hv).1, (h args v hv).2.1⟩, fun args v m m' hv w hw => ?_⟩
  simp only [gkD] at hv
  cases hg : g args with
  | none => rw [hg] at hv; cases hv
  | some u =>
    have := (h args u hg).2.2 w hw
    rcases this with ⟨a, b⟩ | ⟨x, w', a, b1, b2⟩
    · exact .inl ⟨a, b.mono fun e w' hh => ⟨u, hg, hh.1, hh.2⟩⟩
    · exact .inr ⟨x, w', a, u, hg, b1, b2⟩
theorem strs_ok {f : FuncId} {g : List Value → Option (List (List UInt8))} (h : ∀ args l, g args = some l → (∀ a ∈ args, base a = true) ∧ ∀ w, GOK w → ∃ ty, Calls Try.prog f args.toArray w fun e w' => e = .returned (.slice (some ⟨w.heap.size, 0, none⟩) l.length l.length) ∧ w' = w.alloc (.cells (l.map S).toArray ty))
    {F : Func} {c : Code} (hf : Try.prog.funcs[f]? = some F) (hname : (F.name == "runtime.NumGoroutine") = false) (hb : F.body = some c) : GvOk f (.strs g) := by
  refine ⟨fun args v hv => (h args v hv).1, fun args v m m' hv w hw => ?_⟩
  simp only [gkD] at hv
  cases hg : g args with
  | none => rw [hg] at hv; cases hv
  | some u =>
    obtain ⟨ty, hc⟩ := (h args u hg).2 w hw
    exact goes_calls hf hname hb (hc.mono fun e w' hh => ⟨u, ty, hg, hh.1, hh.2⟩)
theorem idxB_ok : GvOk 48 (.pure gIdxB) := by
  refine pure_ok fun args v h => ?_
  unfold gIdxB at h
  split at h
  · cases h
    refine ⟨rfl, fun a ha => ?_, fun w hw => goes_calls Try.func48 rfl rfl ((Try.stringslite_IndexByte _ _ w).mono ?_)⟩
    · simp only [List.mem_cons, List.not_mem_nil, or_false] at ha; rcases ha with rfl | rfl <;> rfl
    · rintro e w' ⟨rfl, rfl⟩
      exact ⟨rfl, .refl _ _⟩
  · cases h
theorem count_ok : GvOk 35 (.pure gCount) := by
  refine pure_ok fun args v h => ?_
  unfold gCount at h
  split at h
  · rename_i s t
    split at h
    · rename_i c hc
      cases h
      obtain rfl : t = ⟨#[c]⟩ := by
        apply ByteArray.ext
        apply Array.ext'
        exact hc
      refine ⟨rfl, fun a ha => ?_, fun w hw => goes_calls Try.func35 rfl rfl ((Try.strings_Count_one _ _ w).mono ?_)⟩
      · simp only [List.mem_cons, List.not_mem_nil, or_false] at ha; rcases ha with rfl | rfl <;> rfl
      · rintro e w' ⟨rfl, rfl⟩
        exact ⟨rfl, .refl _ _⟩
    · cases h
  · cases h
theorem noEscape_ok : GvOk 49 .same := by
  refine ⟨trivial, fun args v m m' hv w hw => ?_⟩
  simp only [gkD] at hv
  cases hg : gSame args with
  | none => rw [hg] at hv; cases hv
  | some u =>
    obtain ⟨o, off, rfl, rfl⟩ := gSame_some hg
    refine .inr ⟨_, w, ?_, _, hg, rfl, .refl _ _⟩
    rw [run_callFunc_extern Try.func49 (by kernel_rfl) (by kernel_rfl) (by kernel_rfl) (e := Extern.AbiNoEscape.same) (by kernel_rfl)]
    rw [Lib.run_noEscape]
    rfl
theorem gn_ok : ∀ x ∈ gnT, GvOk x.1 x.2 := by
  intro x hx
  simp only [gnT, List.mem_flatten, List.mem_cons, List.not_mem_nil, or_false] at hx
  obtain ⟨l, hl, hx⟩ := hx
  repeat' rcases hl with rfl | hl
  all_goals first
    | (cases hx; done)
    | (simp only [List.mem_singleton] at hx; subst hx; first
        | exact idxB_ok
        | exact count_ok
        | exact noEscape_ok
        | skip)
    | (subst hl; cases hx)
end Go.Proofs.Ytjojfpmelhaknaa.D
