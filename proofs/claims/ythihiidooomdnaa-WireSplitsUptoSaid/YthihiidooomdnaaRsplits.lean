/-
  The statement WireSplits, where what is read is of bounded bulk: for every input the law answers true, and the argument reads afterwards as it read before.
-/
import Derived.Test.YthihiidooomdnaaRows
import Derived.Test.YthihiidooomdnaaFl
import Derived.WalkKit
import Derived.ProofKit
import Derived.OpenShut
import Derived.JoinedCond
import Derived.Carry
namespace Go.Proofs.Ythihiidooomdnaa.wireSplits
open Go.ChangeShapes Go.WideShapes Go.ChangeAt Go.RowKit Go.Proofs.Ythihiidooomdnaa.D
set_option linter.unusedVariables false
theorem own : ownKnob Try.prog.godebug = none := by kernel_rfl
theorem laidOut : laidOutB Try.prog = true := by kernel_rfl
theorem u8 : Try.prog.underlying 5 = some (.int .u8) := by kernel_rfl
theorem bs : Try.prog.underlying 22 = some (.slice 5) := by kernel_rfl
theorem c8 : Try.prog.cellsOf 5 = 1 := by kernel_rfl
theorem bulk_lits {H : Type} (k : IntKind) (l : List Int) : Rows.uptoBulkAll (lits (H := H) k l) = l.length := by
  induction l with
  | nil => rfl
  | cons a t ih =>
    show Rows.uptoBulk (DataW.lit (H := H) (.int k a)) + Rows.uptoBulkAll (lits (H := H) k t) = t.length + 1
    rw [ih]
    show 1 + t.length = t.length + 1
    omega
theorem short {H : Type} {l r : List Int} (hk : Rows.uptoSmall H [.slice (lits .u8 l) (lits .u8 r)] = true) : l.length ≤ 1048576 := by
  have h : Rows.uptoBulkAll [DataW.slice (H := H) (lits .u8 l) (lits .u8 r)] ≤ 1048576 := of_decide_eq_true hk
  simp only [Rows.uptoBulkAll, Rows.uptoBulk, bulk_lits] at h
  omega
theorem wf_u8 {n : Int} (h : (Lit.int .u8 n).wf = true) : 0 ≤ n ∧ n ≤ 255 := by
  have e : (Lit.int .u8 n).wf = (decide (0 ≤ n) && decide (n ≤ 255)) := rfl
  rw [e] at h
  simpa using h
theorem contract (H : Type) (enc : TypeId × Value → H) (W : World) (base : Nat) (args : Array Value) (ds gs : List (DataW H)) (before : List MemPlace)
    (hval : ∀ (j : Nat) t v, Try.f3.params[j]? = some t → args[j]? = some v → Value.okWide Try.prog W .any base t v)
    (hW : DataW.Whole enc Try.prog Try.f3.params.toList Rows.wireSplitsSpec.vars false W args.toList ds gs before) (hk : Rows.uptoSmall H (ds ++ gs) = true) :
    Calls Try.prog 3 args W fun e W' => ∃ v, e = .returned v ∧ Rows.wireSplitsSpec.post enc Try.prog Try.f3 false true false false W args v W' := by
  have hW' := hW
  obtain ⟨p, q, hA0, hV, rfl, hfz, hnd⟩ := hW
  have hA : DataW.TrodAll enc Try.prog W 0 (fun _ => true) true Try.f3.params.toList args.toList ds p := hA0
  rw [Try.params3] at hA hval
  obtain ⟨v0, vs0, d0, ds0, p0, q0, hargs, rfl, rfl, h0, r0⟩ := trodAll_cons hA
  obtain ⟨rfl, rfl, rfl⟩ := trodAll_nil r0
  obtain rfl : args = #[v0] := by cases args; simp_all
  obtain ⟨rfl, rfl⟩ := trodVars_none hV
  have k0 := h0
  have lt0 : ∀ x ∈ p0, x.block < W.heap.size := by obtain ⟨m, hm⟩ := k0; exact DataW.trod_lt m _ _ _ hm
  have back : ∀ W', Below W.heap.size W W' → DataW.TrodAll enc Try.prog W' 0 (fun b => decide (b < W.heap.size)) true _ _ _ _ := fun W' bel => (trodAll_cons_mk (Below.trod laidOut (by kernel_rfl) (of_decide_eq_true (by kernel_rfl)) k0 bel lt0) trodAll_mk0)
  have main : Calls Try.prog 3 #[v0] W fun e w' => e = .returned (.bool true) ∧ Below W.heap.size W w' := by
    obtain ⟨fuel, hm⟩ := h0
    have hv0 := hval 0 22 v0 rfl rfl
    rcases open_ints bs u8 c8 hm with ⟨hc, hd⟩ | ⟨a, len, cap, zs, hc, hb, hlc, hmx, hz, hd, hcell, hwf⟩
    · obtain rfl := okWide_slice bs hv0 hc
      obtain ⟨m', hr⟩ := splits_run (m := ⟨[], 0, 0, 0⟩) (Nat.le_refl _) (.slice none 0 0) [] (fun c h => by cases h) (by simp) (.inl ⟨rfl, rfl⟩)
      exact D.contract (Ini.nil W) (GS1 W _ _) (LRel.cons (.base rfl) LRel.nil) hr (fn := ir3) rfl
    · obtain rfl := okWide_slice bs hv0 hc
      cases hd
      simp only [if_true] at hz
      obtain ⟨m1, ι1, b, i1, i2, i3, i4, i5⟩ := (Ini.nil W).ints bs hv0 hlc hz hcell
      have hlen : (zs.take len).length ≤ 1048576 := short (by simpa using hk)
      obtain ⟨m', hr⟩ := splits_run (m := m1) (by rw [i1.lo]; exact Nat.le_refl _) b (zs.take len) (fun c h => wf_u8 (hwf c (List.mem_of_mem_take h))) (by omega) i5
      exact D.contract i1 (GS1 W _ _) (LRel.cons i4 LRel.nil) hr (fn := ir3) rfl
  refine main.mono fun e W' ⟨he, bel⟩ => ?_
  subst he
  exact ⟨_, rfl, _, _, _, [], _, [], hW', trodAll_mk1 (shut_bool (by kernel_rfl) _), back W' bel, rfl, bel.frame _, fun h => by cases h⟩
set_option maxRecDepth 100000 in
theorem lifted (os : Os) (started : os.Started) (H : Type) (enc : TypeId × Value → H) (F : Stop.Interp) :
    ReturnsInHanded {} Try.checked os 3 .any ((Rows.OpenSpec.upto Rows.wireSplitsSpec).pre6 enc Try.prog Try.f3 Rows.wireSplitsUptoRow.domain false) (((Rows.OpenSpec.upto Rows.wireSplitsSpec).at F).post enc Try.prog Try.f3 false true false false) := by
  refine returnsInHanded_of_cond (C := Try.checked) (s := Rows.OpenSpec.upto Rows.wireSplitsSpec) (k := Rows.uptoSmall) rfl own started (by kernel_rfl) Try.func3
    (OpenSpec.witness (enc := enc) (C := Try.checked) (s := Rows.OpenSpec.upto Rows.wireSplitsSpec) (k := Rows.uptoSmall) rfl false ⟨#[], #[.slice none 0 0], []⟩ 8 (by kernel_rfl) (by kernel_rfl) (by kernel_rfl)
      (x := ([.nil], [], [])) (by kernel_rfl) rfl (by kernel_rfl)) ?_
  intro W base args ds gs before hval hW _ hk _
  exact contract H enc W base args ds gs before hval hW hk
theorem proved : Rows.WireSplitsUptoSaid :=
  OpenClaim.holds_of_cond 3 Try.f3 rfl rfl rfl rfl rfl rfl rfl ⟨rfl, rfl, rfl, rfl, rfl⟩ rfl rfl rfl rfl rfl (by kernel_rfl) Try.func3 (by kernel_rfl)
    (of_decide_eq_true (by kernel_rfl)) (by unfold Func.isWrapper; first | (rw [if_pos (by decide +kernel)]; kernel_rfl) | (rw [if_neg (by decide +kernel)]; exact ⟨rfl, rfl⟩))
    (fun os started H enc _ F => lifted os started H enc F)
#print axioms proved
end Go.Proofs.Ythihiidooomdnaa.wireSplits
namespace Go.Proofs.Ythihiidooomdnaa
/-- The row, under a short name, for the claim. -/
theorem wireSplits_holds : Rows.WireSplitsUptoSaid := wireSplits.proved
end Go.Proofs.Ythihiidooomdnaa
