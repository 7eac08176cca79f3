/-
  The statement WireFeeds, where what is read is of bounded bulk: for every input the law answers true, and the argument reads afterwards as it read before.
-/
import Derived.Test.YthihiidooomdnaaRows
import Derived.Test.YthihiidooomdnaaFj
import Derived.WalkKit
import Derived.ProofKit
import Derived.OpenShut
import Derived.JoinedCond
import Derived.Carry
namespace Go.Proofs.Ythihiidooomdnaa.wireFeeds
open Go.ChangeShapes Go.WideShapes Go.ChangeAt Go.RowKit Go.Proofs.Ythihiidooomdnaa.D
set_option linter.unusedVariables false
theorem own : ownKnob Try.prog.godebug = none := by kernel_rfl
theorem laidOut : laidOutB Try.prog = true := by kernel_rfl
theorem u8 : Try.prog.underlying 5 = some (.int .u8) := by kernel_rfl
theorem bs : Try.prog.underlying 22 = some (.slice 5) := by kernel_rfl
theorem i64 : Try.prog.underlying 3 = some (.int .i64) := by kernel_rfl
theorem is_ : Try.prog.underlying 34 = some (.slice 3) := by kernel_rfl
theorem ci : Try.prog.cellsOf 3 = 1 := by kernel_rfl
theorem c8 : Try.prog.cellsOf 5 = 1 := by kernel_rfl
theorem bulk_lits {H : Type} (k : IntKind) (l : List Int) : Rows.uptoBulkAll (lits (H := H) k l) = l.length := by
  induction l with
  | nil => rfl
  | cons a t ih =>
    show Rows.uptoBulk (DataW.lit (H := H) (.int k a)) + Rows.uptoBulkAll (lits (H := H) k t) = t.length + 1
    rw [ih]
    show 1 + t.length = t.length + 1
    omega
def bulkOf {H : Type} (k : IntKind) (l : Option (List Int × List Int)) : DataW H := match l with | none => .nil | some (l, r) => .slice (lits k l) (lits k r)
theorem short {H : Type} {l : Option (List Int × List Int)} {l2 : Option (List Int × List Int)} (hk : Rows.uptoSmall H [bulkOf .u8 l, bulkOf .i64 l2] = true) : (∀ x y, l = some (x, y) → x.length ≤ 1048576) ∧ ∀ x y, l2 = some (x, y) → x.length ≤ 1048576 := by
  have h : Rows.uptoBulkAll [bulkOf (H := H) .u8 l, bulkOf .i64 l2] ≤ 1048576 := of_decide_eq_true hk
  refine ⟨fun x y e => ?_, fun x y e => ?_⟩
  · subst e
    simp only [bulkOf, Rows.uptoBulkAll, Rows.uptoBulk, bulk_lits] at h
    omega
  · subst e
    simp only [bulkOf, Rows.uptoBulkAll, Rows.uptoBulk, bulk_lits] at h
    omega
theorem wf_u8 {n : Int} (h : (Lit.int .u8 n).wf = true) : 0 ≤ n ∧ n ≤ 255 := by
  have e : (Lit.int .u8 n).wf = (decide (0 ≤ n) && decide (n ≤ 255)) := rfl
  rw [e] at h
  simpa using h
theorem contract (H : Type) (enc : TypeId × Value → H) (W : World) (base : Nat) (args : Array Value) (ds gs : List (DataW H)) (before : List MemPlace)
    (hval : ∀ (j : Nat) t v, Try.f4.params[j]? = some t → args[j]? = some v → Value.okWide Try.prog W .any base t v)
    (hW : DataW.Whole enc Try.prog Try.f4.params.toList Rows.wireFeedsSpec.vars false W args.toList ds gs before) (hk : Rows.uptoSmall H (ds ++ gs) = true) :
    Calls Try.prog 4 args W fun e W' => ∃ v, e = .returned v ∧ Rows.wireFeedsSpec.post enc Try.prog Try.f4 false true false false W args v W' := by
  have hW' := hW
  obtain ⟨p, q, hA0, hV, rfl, hfz, hnd⟩ := hW
  have hA : DataW.TrodAll enc Try.prog W 0 (fun _ => true) true Try.f4.params.toList args.toList ds p := hA0
  rw [Try.params4] at hA hval
  obtain ⟨v0, vs0, d0, ds0, p0, q0, hargs, rfl, rfl, h0, r0⟩ := trodAll_cons hA
  obtain ⟨v1, vs1, d1, ds1, p1, q1, rfl, rfl, rfl, h1, r1⟩ := trodAll_cons r0
  obtain ⟨rfl, rfl, rfl⟩ := trodAll_nil r1
  obtain rfl : args = #[v0, v1] := by cases args; simp_all
  obtain ⟨rfl, rfl⟩ := trodVars_none hV
  have k0 := h0
  have k1 := h1
  have lt1 : ∀ x ∈ p1, x.block < W.heap.size := by obtain ⟨m, hm⟩ := k1; exact DataW.trod_lt m _ _ _ hm
  have lt0 : ∀ x ∈ p0, x.block < W.heap.size := by obtain ⟨m, hm⟩ := k0; exact DataW.trod_lt m _ _ _ hm
  have back : ∀ W', Below W.heap.size W W' → DataW.TrodAll enc Try.prog W' 0 (fun b => decide (b < W.heap.size)) true _ _ _ _ := fun W' bel => (trodAll_cons_mk (Below.trod laidOut (by kernel_rfl) (of_decide_eq_true (by kernel_rfl)) k0 bel lt0) (trodAll_cons_mk (Below.trod laidOut (by kernel_rfl) (of_decide_eq_true (by kernel_rfl)) k1 bel lt1) trodAll_mk0))
  have main : Calls Try.prog 4 #[v0, v1] W fun e w' => e = .returned (.bool true) ∧ Below W.heap.size W w' := by
    obtain ⟨fuel, hm⟩ := h0
    obtain ⟨fuel1, hm1⟩ := h1
    have hv0 := hval 0 22 v0 rfl rfl
    have hv1 := hval 1 34 v1 rfl rfl
    -- the bytes
    have first : ∃ (x : Option (List Int × List Int)) (m1 : Mem) (ι1 : Inj) (b : Value) (xs : List Int), d0 = bulkOf .u8 x ∧ Ini W m1 ι1 ∧ VRel ι1 b v0 ∧ By m1 b xs ∧ (∀ c ∈ xs, 0 ≤ c ∧ c ≤ 255) ∧ (xs = [] ∨ ∃ y, x = some (xs, y)) := by
      rcases open_ints bs u8 c8 hm with ⟨hc, hd⟩ | ⟨a, len, cap, zs, hc, hb, hlc, hmx, hz, hd, hcell, hwf⟩
      · obtain rfl := okWide_slice bs hv0 hc
        cases hd
        exact ⟨none, _, _, .slice none 0 0, [], rfl, Ini.nil W, .base rfl, .inl ⟨rfl, rfl⟩, (fun c h => by cases h), .inl rfl⟩
      · obtain rfl := okWide_slice bs hv0 hc
        cases hd
        simp only [if_true] at hz
        obtain ⟨m1, ι1, b, i1, i2, i3, i4, i5⟩ := (Ini.nil W).ints bs hv0 hlc hz hcell
        exact ⟨some (zs.take len, zs.drop len), m1, ι1, b, _, rfl, i1, i4, i5, fun c h => wf_u8 (hwf c (List.mem_of_mem_take h)), .inr ⟨_, rfl⟩⟩
    obtain ⟨x, m1, ι1, b, xs, rfl, i1, i4, i5, i6, i7⟩ := first
    -- the cuts
    have second : ∃ (x2 : Option (List Int × List Int)) (m2 : Mem) (ι2 : Inj) (c : Value) (ns : List Int), d1 = bulkOf .i64 x2 ∧ Ini W m2 ι2 ∧ Inj.le ι1 ι2 ∧ Gr m1 m2 ∧ VRel ι2 c v1 ∧ Sl m2 c 1 (fun n => [.int .i64 n]) ns ∧ (ns = [] ∨ ∃ y, x2 = some (ns, y)) := by
      rcases open_ints is_ i64 ci hm1 with ⟨hc, hd⟩ | ⟨a, len, cap, zs, hc, hb, hlc, hmx, hz, hd, hcell, hwf⟩
      · obtain rfl := okWide_slice is_ hv1 hc
        cases hd
        exact ⟨none, m1, ι1, .slice none 0 0, [], rfl, i1, .refl _, .refl _, .base rfl, .inl ⟨rfl, rfl⟩, .inl rfl⟩
      · obtain rfl := okWide_slice is_ hv1 hc
        cases hd
        simp only [if_true] at hz
        obtain ⟨m2, ι2, c, j1, j2, j3, j4, j5⟩ := i1.ints is_ hv1 hlc hz hcell
        exact ⟨some (zs.take len, zs.drop len), m2, ι2, c, _, rfl, j1, j2, j3, j4, j5, .inr ⟨_, rfl⟩⟩
    obtain ⟨x2, m2, ι2, c, ns, rfl, j1, j2, j3, j4, j5, j6⟩ := second
    obtain ⟨s1, s2⟩ := short (H := H) (l := x) (l2 := x2) (by simpa using hk)
    have hxl : xs.length ≤ 1100000 := by
      rcases i7 with rfl | ⟨y, e⟩
      · simp
      · have := s1 _ _ e; omega
    have hnl : ns.length ≤ 1100000 := by
      rcases j6 with rfl | ⟨y, e⟩
      · simp
      · have := s2 _ _ e; omega
    obtain ⟨m', hr⟩ := feeds_run (m := m2) (by rw [j1.lo]; exact Nat.le_refl _) b c xs ns i6 hxl hnl (i5.gr j3) j5
    exact D.contract j1 (GS1 W _ _) (LRel.cons (i4.mono j2) (LRel.cons j4 LRel.nil)) hr (fn := ir4) rfl
  refine main.mono fun e W' ⟨he, bel⟩ => ?_
  subst he
  exact ⟨_, rfl, _, _, _, [], _, [], hW', trodAll_mk1 (shut_bool (by kernel_rfl) _), back W' bel, rfl, bel.frame _, fun h => by cases h⟩
set_option maxRecDepth 100000 in
theorem lifted (os : Os) (started : os.Started) (H : Type) (enc : TypeId × Value → H) (F : Stop.Interp) :
    ReturnsInHanded {} Try.checked os 4 .any ((Rows.OpenSpec.upto Rows.wireFeedsSpec).pre6 enc Try.prog Try.f4 Rows.wireFeedsUptoRow.domain false) (((Rows.OpenSpec.upto Rows.wireFeedsSpec).at F).post enc Try.prog Try.f4 false true false false) := by
  refine returnsInHanded_of_cond (C := Try.checked) (s := Rows.OpenSpec.upto Rows.wireFeedsSpec) (k := Rows.uptoSmall) rfl own started (by kernel_rfl) Try.func4
    (OpenSpec.witness (enc := enc) (C := Try.checked) (s := Rows.OpenSpec.upto Rows.wireFeedsSpec) (k := Rows.uptoSmall) rfl false ⟨#[], #[.slice none 0 0, .slice none 0 0], []⟩ 8 (by kernel_rfl) (by kernel_rfl) (by kernel_rfl)
      (x := ([.nil, .nil], [], [])) (by kernel_rfl) rfl (by kernel_rfl)) ?_
  intro W base args ds gs before hval hW _ hk _
  exact contract H enc W base args ds gs before hval hW hk
theorem proved : Rows.WireFeedsUptoSaid :=
  OpenClaim.holds_of_cond 4 Try.f4 rfl rfl rfl rfl rfl rfl rfl ⟨rfl, rfl, rfl, rfl, rfl⟩ rfl rfl rfl rfl rfl (by kernel_rfl) Try.func4 (by kernel_rfl)
    (of_decide_eq_true (by kernel_rfl)) (by unfold Func.isWrapper; first | (rw [if_pos (by decide +kernel)]; kernel_rfl) | (rw [if_neg (by decide +kernel)]; exact ⟨rfl, rfl⟩))
    (fun os started H enc _ F => lifted os started H enc F)
#print axioms proved
end Go.Proofs.Ythihiidooomdnaa.wireFeeds
namespace Go.Proofs.Ythihiidooomdnaa
/-- The row, under a short name, for the claim. -/
theorem wireFeeds_holds : Rows.WireFeedsUptoSaid := wireFeeds.proved
end Go.Proofs.Ythihiidooomdnaa
