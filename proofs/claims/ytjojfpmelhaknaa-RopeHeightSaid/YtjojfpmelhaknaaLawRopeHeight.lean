/-
  The statement RopeHeight: for every input the law answers true, and each argument reads afterwards as it read before.
-/
import Derived.Test.YtjojfpmelhaknaaRows
import Derived.Test.YtjojfpmelhaknaaVZ
import Derived.Test.YtjojfpmelhaknaaVP
import Derived.Test.YtjojfpmelhaknaaRo7
import Derived.WalkKit
import Derived.ProofKit
import Derived.OpenShut
import Derived.ShutString
import Derived.ChangeOld
import Derived.Below
import Derived.SizedLaws
import Derived.HandedShaped
import Derived.Lib.SmallJoins
import Derived.Carry
namespace Go.Proofs.Ytjojfpmelhaknaa.ropeHeight
open Go.ChangeShapes Go.WideShapes Go.ChangeAt Go.RowKit Go.Lib Go.Proofs.Ytjojfpmelhaknaa.D
open Go.ChangeMaps (open_string shut_string)
set_option linter.unusedVariables false
set_option linter.defProp false
theorem own : ownKnob Try.prog.godebug = none := by kernel_rfl
theorem laidOut : laidOutB Try.prog = true := by kernel_rfl
def ope9 := opens_string (P := Try.prog) (t := 9) Try.underlying9
def ope3 := opens_int (P := Try.prog) (t := 3) Try.underlying3
def ope32 := opens_struct2 (P := Try.prog) (t := 32) Try.underlying32 (by kernel_rfl) (opensFs_cons (z := 1) ope3 rfl (by kernel_rfl) (opensFs_cons (z := 1) ope3 rfl (by kernel_rfl) (opensFs_cons (z := 1) ope9 rfl (by kernel_rfl) opensFs_nil)))
def ope22 := opens_slice (P := Try.prog) (t := 22) (e := 32) (sz := 3) Try.underlying22 ope32 (by kernel_rfl) (of_decide_eq_true (by kernel_rfl))
set_option maxRecDepth 100000 in
theorem lifted (os : Os) (started : os.Started) (H : Type) (enc : TypeId × Value → H) :
    ReturnsInHanded {} Try.checked os 4 .any (Rows.ropeHeightSpec.pre6 enc Try.prog Try.f4 Rows.ropeHeightRow.domain false) (Rows.ropeHeightSpec.post enc Try.prog Try.f4 false true false false) := by
  refine returnsInHanded_of_change_shaped (C := Try.checked) own started (by kernel_rfl) Try.func4
    (ChangeSpec.witness6 (enc := enc) (C := Try.checked) false ⟨#[], #[.string ByteArray.empty, .slice none 0 0], []⟩ 8 (by kernel_rfl) (by kernel_rfl) (by kernel_rfl) (by kernel_rfl)) ?_
  intro W base args ds gs before hval0 hW hcnd hsz0 hsh _
  have hsz : (DataW.weightsEach Try.prog (Try.f4.params.toList ++ Rows.ropeHeightSpec.plain.varTypes Try.prog) (ds ++ gs)).all (· ≤ reachBytes) = true := hsz0
  have hval : ∀ (j : Nat) t v, Try.f4.params[j]? = some t → args[j]? = some v → Value.okWide Try.prog W .any base t v := hval0
  have hW' := hW
  obtain ⟨p, q, hA0, hV, rfl, hfz, hnd⟩ := hW
  have hA : DataW.TrodAll enc Try.prog W 0 (fun _ => true) true Try.f4.params.toList args.toList ds p := hA0
  rw [Try.params4] at hA hval hsz
  obtain ⟨v0, vs0, d0, ds0, p0, q0, hargs, rfl, rfl, h0, r0⟩ := trodAll_cons hA
  obtain ⟨v1, vs1, d1, ds1, p1, q1, rfl, rfl, rfl, h1, r1⟩ := trodAll_cons r0
  obtain ⟨rfl, rfl, rfl⟩ := trodAll_nil r1
  obtain rfl : args = #[v0, v1] := by cases args; simp_all
  obtain ⟨rfl, rfl⟩ := trodVars_none hV
  have k0 := h0
  have lt0 : ∀ x ∈ p0, x.block < W.heap.size := by obtain ⟨m, hm⟩ := k0; exact DataW.trod_lt m _ _ _ hm
  obtain ⟨a0, rfl, hd0, hp0, y0⟩ := open_string Try.underlying9 (hval 0 9 v0 rfl rfl) h0
  have w0 : a0.size ≤ 140737488351232 := by
    subst hd0
    have z := sized_string hsz (j := 0) (t := 9) rfl rfl
    rw [Array.length_toList] at z
    exact z
  have k1 := h1
  have lt1 : ∀ x ∈ p1, x.block < W.heap.size := by obtain ⟨m, hm⟩ := k1; exact DataW.trod_lt m _ _ _ hm
  have back : ∀ W', Below W.heap.size W W' → DataW.TrodAll enc Try.prog W' 0 (fun b => decide (b < W.heap.size)) true _ _ _ _ := fun W' bel => (trodAll_cons_mk (Below.trod laidOut (by kernel_rfl) (of_decide_eq_true (by kernel_rfl)) k0 bel lt0) (trodAll_cons_mk (Below.trod laidOut (by kernel_rfl) (of_decide_eq_true (by kernel_rfl)) k1 bel lt1) trodAll_mk0))
  have hG : GOK W := ⟨rfl, (maxLen_of hsh)⟩
  obtain ⟨x1, m1, i1, b1, j1, l1, g1, f1, u1, e1⟩ := open_arg ope22 (by kernel_rfl) (Ini2.nil W) (hval 1 22 v1 rfl rfl) h1
  have main : Calls Try.prog 4 #[.string a0, v1] W fun e w' => e = .returned (.bool true) ∧ Below W.heap.size W w' :=
    call_opened g_ok (f := 4) (fn := ir4) rfl hG j1 (vargs := [.string a0, _]) (dargs := [.string a0, b1]) (LR.cons (FR.base rfl).toR (LR.cons f1.toR LR.nil)) (LRel.cons (.base rfl) (LRel.cons u1 LRel.nil)) (height_run a0.data.toList x1.1 x1.2 ⟨[], 0, 0, 0⟩)
  clear hA0 hval0 hsz0
  refine (main).mono fun e W' ⟨he, bel⟩ => ?_
  subst he
  exact ⟨_, rfl, _, _, _, [], _, [], hW', trodAll_mk1 (shut_bool Try.underlying4 _), back W' bel, rfl, bel.frame _, fun h => by cases h⟩
theorem over : Rows.ropeHeightRow.holds Try.pinned (OpenSpec.ofChange Rows.ropeHeightSpec) :=
  OpenClaim.holds_of_wide 4 Try.f4 rfl rfl rfl rfl rfl rfl rfl ⟨rfl, rfl, rfl, rfl, rfl⟩ rfl rfl rfl rfl rfl (by kernel_rfl) Try.func4 (by kernel_rfl)
    (of_decide_eq_true (by kernel_rfl)) (by unfold Func.isWrapper; first | (rw [if_pos (by decide +kernel)]; kernel_rfl) | (rw [if_neg (by decide +kernel)]; exact ⟨rfl, rfl⟩))
    (fun os started H enc _ => lifted os started H enc)
theorem proved : Rows.RopeHeightSaid := over
#print axioms proved
end Go.Proofs.Ytjojfpmelhaknaa.ropeHeight
namespace Go.Proofs.Ytjojfpmelhaknaa
/-- The row, under a short name, for the claim. -/
theorem ropeHeight_holds : Rows.RopeHeightSaid := ropeHeight.proved
end Go.Proofs.Ytjojfpmelhaknaa
